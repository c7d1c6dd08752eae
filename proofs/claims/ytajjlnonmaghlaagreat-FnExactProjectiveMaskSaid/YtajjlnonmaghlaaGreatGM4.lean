/- Walks: lifted substitutions on both sides. -/
import Derived.Test.YtajjlnonmaghlaaGreatGM3
import Derived.StillTailTactics
import Derived.Deep.RegionHeld3
namespace Go.Proofs.YtajjlnonmaghlaaGreat
open Go.RowKit
/-- the image of a variable of a formula under its lifted substitution -/
def liftI (a : List Nd) (mask : Nat) (v : Int) : List Nd := ⟨if mask.testBit v.toNat then 4 else 2, 0⟩ :: (a ++ [⟨0, v⟩])
def liftF (a : List Nd) (mask : Nat) (ms : List Int) : List (List Nd) := ms.foldl (fun l v => l.set v.toNat (liftI a mask v)) (idL 6)
def liftL (a : List Nd) (mask : Nat) : List (List Nd) := liftF a mask (mem (vm a))
theorem liftF_snoc (a : List Nd) (mask : Nat) (ms : List Int) (v : Int) : liftF a mask (ms ++ [v]) = (liftF a mask ms).set v.toNat (liftI a mask v) := by simp [liftF, List.foldl_append]
theorem liftF_len (a : List Nd) (mask : Nat) (ms : List Int) : (liftF a mask ms).length = 6 := by
  unfold liftF
  have : ∀ (l : List (List Nd)), (ms.foldl (fun l v => l.set v.toNat (liftI a mask v)) l).length = l.length := by
    induction ms with
    | nil => intro l; rfl
    | cons x ms ih => intro l; rw [List.foldl_cons, ih]; simp
  rw [this, idL_len]
theorem liftI_len (a : List Nd) (mask : Nat) (v : Int) : (liftI a mask v).length = a.length + 2 := by simp [liftI]
theorem OwnL.shape {w : World} {B : Nat} {v : Value} {xs : List (List Nd)} (h : OwnL w B v xs) (hp : 0 < xs.length) : ∃ g cap, v = .slice (some ⟨g, 0, none⟩) xs.length cap ∧ B ≤ g ∧ g < w.heap.size := by
  obtain ⟨vs, ho, _⟩ := h
  rcases ho.2 with ⟨_, h0⟩ | ⟨g, cap, cur, e, hb, hg, _⟩
  · omega
  · exact ⟨g, cap, e, hb, (Array.getElem?_eq_some_iff.1 hg).1⟩
theorem tyni : (26 : TypeId) ≠ 2 := by decide
theorem OwnL.typed {w : World} {B : Nat} {v : Value} {xs : List (List Nd)} (h : OwnL w B v xs) : ∃ vs, w.ownsRow B 26 1 v xs.length vs := by
  obtain ⟨vs, ho, _⟩ := h
  exact ⟨vs, ho⟩
/-- numbers stay where a header of lists is written -/
theorem OwnI.beside {w w' : World} {B B' : Nat} {v u : Value} {a : List Int} {xs : List (List Nd)} {g : Nat} (h : OwnI w B v a) (ho : OwnL w B' u xs) (hg : u.ownBlock = some g) (k : w.grownBy w' (some g)) : OwnI w' B v a := by
  obtain ⟨vs, hr⟩ := ho.typed
  exact own_touch h (Touch.grown k) (fun i hi e => by cases e; exact type_ne hr h tyni hg hi)
--
set_option maxRecDepth 20000 in
set_option maxHeartbeats 2000000 in
theorem lifted_any (a : List Nd) (mask : Nat) (v : Value) (w : World) (hv : Nds w v a) (ha : a.all okNd = true) (hl : a.length ≤ 1000000) (hm : mask < 64) : Calls Tryz.prog 66 #[v, .int .i64 mask] w (RetL w (liftL a mask)) := by
  obtain ⟨pv, nv, cv, rfl⟩ := hv.shape
  have HA := hid ha; clear ha
  have hmr := mem_range (vm a)
  have hml := low_len (vm a) 6
  have hs6 := liftF_snoc a mask
  have hl6 := liftF_len a mask
  have HV := hid (fun w1 (k : Keeps w w1) => variablesIn_one a _ _ (NdsL.lit1 (hv.keeps k)) HA.out)
  unfold liftL
  change (mem (vm a)).length ≤ 6 at hml
  generalize mem (vm a) = M at *
  have HS6 := hid hs6; clear hs6
  have HL6 := hid hl6; clear hl6
  have HMR := hid hmr; clear hmr
  go_enter Tryz.func66, Tryz.ntmps66
  go_wp2_with fail
  refine (identity_any w).mono ?_; rintro e w1 ⟨vI, rfl, hI, kI⟩
  obtain ⟨g, cap, rfl, hg0, hg1⟩ := hI.shape (by rw [idL_len]; omega)
  rw [idL_len] at hI ⊢
  have kA := (Keeps.refl w1).alloc (.cells #[.slice pv nv cv] 26)
  go_wp2_with fail
  refine (HV.out w1 kI).mono ?_; rintro e w3 ⟨u, rfl, hu, k3⟩
  clear HV
  have kI3 := kI.trans (kA.trans k3)
  have hI3 := hI.keeps (kA.trans k3)
  obtain ⟨pu, cu, rfl, hcu, hmu, hatu, hlu⟩ := hu.ints (by omega)
  have hub : w.heap.size ≤ (w1.alloc (.cells #[.slice pv nv cv] 26)).heap.size := by have := kI.size; simp; omega
  have hu3 := hu.mono hub
  unfold maxLen at hmu
  clear hI hatu hu
  go_wp2_with fail
  go_loopw [14] (fun i' wr => ∃ i : Nat, i ≤ M.length ∧ i' = .int .i64 i ∧ OwnL wr w.heap.size (.slice (some ⟨g, 0, none⟩) 6 cap) (liftF a mask (M.take i)) ∧ OwnI wr w.heap.size (.slice pu M.length cu) M ∧ Keeps w wr) (fun i _ => M.length - (intOf i).toNat)
  case atStart => exact ⟨0, by omega, rfl, by simpa [liftF] using hI3, hu3, kI3⟩
  case round =>
    obtain ⟨i, hi, rfl, hI, hu, kw⟩ := hrel
    clear hI3 hu3 kI3
    by_cases hlt : i < M.length
    · have hlt' : (i : Int) < M.length := by omega
      obtain ⟨_, _, e1, _, _, hatu, _⟩ := hu.ints (by omega)
      cases e1
      obtain ⟨b, off, rfl, hc⟩ := hatu.int i hlt
      clear hatu
      obtain ⟨x, hx6, hx⟩ := HMR.out M[i] (List.getElem_mem hlt)
      have hst := HS6.out (M.take i) (x : Int)
      rw [← hx, ← List.take_succ_eq_append_getElem hlt, hx] at hst
      rw [hx] at hc
      have hlen := HL6.out (M.take i)
      have hw0 := kw.size
      have HH := hid (has_any mask x wr hm (by omega))
      have hx6' : (x : Int) < 6 := by omega
      clear hx
      have HST := hid hst; clear hst
      cases hb : mask.testBit x
      all_goals
        rw [hb] at HH
        have HB := hid hb; clear hb
        go_wp2_with fail
        refine HH.out.mono ?_; rintro e w' ⟨rfl, rfl⟩
        go_wp2_with fail
        refine (variable_any x _).mono ?_; rintro e w4 ⟨v4, rfl, hv4, k4⟩
        go_wp2_with fail
        refine (join_any _ _ _ _ _ _ ((hv.keeps kw).keeps k4) (hv4.nds (by simp [Fm.enc])) (by simp [Fm.enc]; omega)).mono ?_; rintro e w5 ⟨v5, rfl, hv5, k5⟩
        have k45 := k4.trans k5
        obtain ⟨g', cap', c5, e5, hg2, hg3, hc5, hf5, hI5, gr5⟩ := hI.store k45 (hv5.mono k4.size) hw0 x (by rw [hlen]; omega)
        rw [hlen] at e5
        cases e5
        obtain ⟨p5, n5, q5, rfl⟩ : ∃ p n c, v5 = .slice p n c := by obtain ⟨p, c, e, _⟩ := At.of_own hv5; exact ⟨p, _, c, e⟩
        have hu5 := (hu.keeps k45).beside (hI.keeps k45) rfl gr5
        have kw5 := (kw.trans k45).grown gr5 (fun j hj => by cases hj; exact hg2)
        clear hc
        go_wp2_with fail
        go_roundw
        case rel =>
          refine ⟨i + 1, by omega, by go_num, ?_, hu5, kw5⟩
          rw [HST.out]
          simpa [liftI, HB.out, Fm.enc] using hI5
        case measure => simp [intOf]; omega
    · obtain rfl : i = M.length := by omega
      go_wp2
      go_ret
      rw [List.take_length] at hI
      exact ⟨_, rfl, hI, kw⟩
--
set_option maxRecDepth 20000 in
set_option maxHeartbeats 4000000 in
theorem l31Lift_any (a : List Nd) (mask : Nat) (v : Value) (w : World) (hv : Nds w v a) (ha : a.all okNd = true) (hl : a.length ≤ 1000000) (hm : mask < 64) : Calls Tryz.prog 62 #[v, .int .i64 mask] w (RetL w (liftL a mask)) := by
  obtain ⟨pv, nv, cv, rfl⟩ := hv.shape
  have HA := hid ha; clear ha
  have hmr := mem_range (vm a)
  have hml := low_len (vm a) 6
  have hs6 := liftF_snoc a mask
  have hl6 := liftF_len a mask
  have HV := hid (fun w1 (k : Keeps w w1) => l02Variables_any a _ _ (hv.keeps k) HA.out)
  unfold liftL
  change (mem (vm a)).length ≤ 6 at hml
  generalize mem (vm a) = M at *
  have HS6 := hid hs6; clear hs6
  have HL6 := hid hl6; clear hl6
  have HMR := hid hmr; clear hmr
  go_enter Tryz.func62, Tryz.ntmps62
  go_wp2_with fail
  refine (l03Self_any w).mono ?_; rintro e w1 ⟨vI, rfl, hI, kI⟩
  obtain ⟨g, cap, rfl, hg0, hg1⟩ := hI.shape (by rw [idL_len]; omega)
  rw [idL_len] at hI ⊢
  go_wp2_with fail
  refine (HV.out w1 kI).mono ?_; rintro e w3 ⟨u, rfl, hu, k3⟩
  clear HV
  have kI3 := kI.trans k3
  have hI3 := hI.keeps k3
  obtain ⟨pu, cu, rfl, hcu, hmu, hatu, hlu⟩ := hu.ints (by omega)
  have hu3 := hu.mono kI.size
  unfold maxLen at hmu
  clear hI hatu hu
  go_wp2_with fail
  go_loopw [7] (fun i' wr => ∃ i : Nat, i ≤ M.length ∧ i' = .int .i64 i ∧ OwnL wr w.heap.size (.slice (some ⟨g, 0, none⟩) 6 cap) (liftF a mask (M.take i)) ∧ OwnI wr w.heap.size (.slice pu M.length cu) M ∧ Keeps w wr) (fun i _ => M.length - (intOf i).toNat)
  case atStart => exact ⟨0, by omega, rfl, by simpa [liftF] using hI3, hu3, kI3⟩
  case round =>
    obtain ⟨i, hi, rfl, hI, hu, kw⟩ := hrel
    clear hI3 hu3 kI3
    by_cases hlt : i < M.length
    · have hlt' : (i : Int) < M.length := by omega
      have hle0 : (0 : Int) ≤ i := by omega
      obtain ⟨_, _, e1, _, _, hatu, _⟩ := hu.ints (by omega)
      cases e1
      obtain ⟨b, off, rfl, hc⟩ := hatu.int i hlt
      clear hatu
      obtain ⟨x, hx6, hx⟩ := HMR.out M[i] (List.getElem_mem hlt)
      have hst := HS6.out (M.take i) (x : Int)
      rw [← hx, ← List.take_succ_eq_append_getElem hlt, hx] at hst
      rw [hx] at hc
      have hlen := HL6.out (M.take i)
      have hw0 := kw.size
      have HH := hid (l01Bit_any mask x wr hm (by omega))
      have hx6' : (x : Int) < 6 := by omega
      have hx0' : (0 : Int) ≤ x := by omega
      have hcd : wr.drew.cell? ⟨b, off + i, none⟩ = some (.int .i64 x) := hc
      have kd := (Keeps.refl wr).drew
      have hne : ∀ (w5 : World) {l : List (List Nd)} {q : Nat}, OwnL wr w.heap.size (.slice (some ⟨g, 0, none⟩) 6 cap) l → OwnI wr w.heap.size (.slice (some ⟨b, off, none⟩) q cu) M → Keeps wr w5 → some b ≠ some g := by
        intro w5 l q h1 h2 k5
        obtain ⟨vs', hr'⟩ := (h1.keeps k5).typed
        exact type_ne hr' (h2.keeps k5) tyni (k := g) rfl
      clear hx
      have HST := hid hst; clear hst
      cases hb : mask.testBit x
      all_goals
        rw [hb] at HH
        have HB := hid hb; clear hb
        go_wp2_with fail
        refine HH.out.mono ?_; rintro e w' ⟨rfl, rfl⟩
        go_wp2_with fail
        go_region_held3 (fun w' => w'.cell? ⟨b, off + i, none⟩ = some (.int .i64 x)) (first | exact hcd | exact hc4 | exact hc5 | exact hc6) (first
          | (go_at_call 106; refine (l02Var_any x _).mono ?_; rintro e w4 ⟨v4, rfl, hv4, k4⟩; have hc4 := k4.cell hcd)
          | (go_at_call 79; refine (l02Pair_any _ _ _ _ _ _ (((hv.keeps kw).keeps kd).keeps k4) (hv4.nds (by simp [Fm.enc])) (by simp [Fm.enc]; omega)).mono ?_; rintro e w5 ⟨v5, rfl, hv5, k5⟩; have hc5 := k5.cell hc4; have k45 := kd.trans (k4.trans k5); obtain ⟨g', cap', c5, e5, hg2, hg3, hcg5, hf5, hI5, gr5⟩ := hI.store k45 (hv5.mono k4.size) hw0 x (by rw [hlen]; omega); rw [hlen] at e5; cases e5; have hu5 := (hu.keeps k45).beside (hI.keeps k45) rfl gr5; obtain ⟨p5, n5, q5, rfl⟩ : ∃ p n c, v5 = .slice p n c := (by obtain ⟨p, c, e, _⟩ := At.of_own hv5; exact ⟨p, _, c, e⟩); have hc6 := World.grownBy.cell gr5 hc5 (hne w5 hI hu k45)))
        go_wp2_with fail
        go_roundw
        case rel =>
          refine ⟨i + 1, by omega, by go_num, ?_, hu5, (kw.trans k45).grown gr5 (fun j hj => by cases hj; exact hg2)⟩
          rw [HST.out]
          simpa [liftI, HB.out, Fm.enc] using hI5
        case measure => simp [intOf]; omega
    · obtain rfl : i = M.length := by omega
      go_wp2
      go_ret
      rw [List.take_length] at hI
      exact ⟨_, rfl, hI, kw⟩
end Go.Proofs.YtajjlnonmaghlaaGreat
