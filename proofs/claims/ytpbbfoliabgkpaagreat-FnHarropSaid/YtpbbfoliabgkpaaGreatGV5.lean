/- Walks: lifted substitutions on both sides. -/
import Derived.Test.YtpbbfoliabgkpaaGreatGM3
import Derived.StillTailTactics
import Derived.Deep.RegionHeld3
import Derived.Test.YtpbbfoliabgkpaaGreatGP3
namespace Go.Proofs.YtpbbfoliabgkpaaGreat
open Go.RowKit
/-- the image of a variable of a formula under its lifted substitution -/
def liftI (a : List Nd) (mask : Nat) (v : Int) : List Nd := ⟨if mask.testBit v.toNat then 4 else 2, 0⟩ :: (a ++ [⟨0, v⟩])
def liftF (a : List Nd) (mask : Nat) (ms : List Int) : List (List Nd) := ms.foldl (fun l v => l.set v.toNat (liftI a mask v)) (idL 6)
def liftL (a : List Nd) (mask : Nat) : List (List Nd) := liftF a mask (mem (vm a))
theorem liftF_snoc (a : List Nd) (mask : Nat) (ms : List Int) (v : Int) : liftF a mask (ms ++ [v]) = (liftF a mask ms).set v.toNat (liftI a mask v) := by simp [liftF, List.foldl_append]
theorem liftF_len (a : List Nd) (mask : Nat) (ms : List Int) : (liftF a mask ms).length = 6 := by
  unfold liftF
  have : ∀ (l : List (List Nd)), (ms.foldl (fun l v => l.set v.toNat (liftI a mask v)) l).length = l.length := by
    induction ms with
    | nil => intro l; rfl
    | cons x ms ih => intro l; rw [List.foldl_cons, ih]; simp
  rw [this, idL_len]
theorem liftI_len (a : List Nd) (mask : Nat) (v : Int) : (liftI a mask v).length = a.length + 2 := by simp [liftI]
theorem OwnL.shape {w : World} {B : Nat} {v : Value} {xs : List (List Nd)} (h : OwnL w B v xs) (hp : 0 < xs.length) : ∃ g cap, v = .slice (some ⟨g, 0, none⟩) xs.length cap ∧ B ≤ g ∧ g < w.heap.size := by
  obtain ⟨vs, ho, _⟩ := h
  rcases ho.2 with ⟨_, h0⟩ | ⟨g, cap, cur, e, hb, hg, _⟩
  · omega
  · exact ⟨g, cap, e, hb, (Array.getElem?_eq_some_iff.1 hg).1⟩
theorem tyni : (24 : TypeId) ≠ 2 := by decide
theorem OwnL.typed {w : World} {B : Nat} {v : Value} {xs : List (List Nd)} (h : OwnL w B v xs) : ∃ vs, w.ownsRow B 24 1 v xs.length vs := by
  obtain ⟨vs, ho, _⟩ := h
  exact ⟨vs, ho⟩
/-- numbers stay where a header of lists is written -/
theorem OwnI.beside {w w' : World} {B B' : Nat} {v u : Value} {a : List Int} {xs : List (List Nd)} {g : Nat} (h : OwnI w B v a) (ho : OwnL w B' u xs) (hg : u.ownBlock = some g) (k : w.grownBy w' (some g)) : OwnI w' B v a := by
  obtain ⟨vs, hr⟩ := ho.typed
  exact own_touch h (Touch.grown k) (fun i hi e => by cases e; exact type_ne hr h tyni hg hi)
--
set_option maxRecDepth 20000 in
set_option maxHeartbeats 2000000 in
theorem lifted_any (a : List Nd) (mask : Nat) (v : Value) (w : World) (hv : Nds w v a) (ha : a.all okNd = true) (hl : a.length ≤ 1000000) (hm : mask < 64) : Calls Tryz.prog 109 #[v, .int .i64 mask] w (RetL w (liftL a mask)) := by
  obtain ⟨pv, nv, cv, rfl⟩ := hv.shape
  have HA := hid ha; clear ha
  have hmr := mem_range (vm a)
  have hml := low_len (vm a) 6
  have hs6 := liftF_snoc a mask
  have hl6 := liftF_len a mask
  have HV := hid (fun w1 (k : Keeps w w1) => variablesIn_one a _ _ (NdsL.lit1 (hv.keeps k)) HA.out)
  unfold liftL
  change (mem (vm a)).length ≤ 6 at hml
  generalize mem (vm a) = M at *
  have HS6 := hid hs6; clear hs6
  have HL6 := hid hl6; clear hl6
  have HMR := hid hmr; clear hmr
  go_enter Tryz.func109, Tryz.ntmps109
  go_wp2_with fail
  refine (identity_any w).mono ?_; rintro e w1 ⟨vI, rfl, hI, kI⟩
  obtain ⟨g, cap, rfl, hg0, hg1⟩ := hI.shape (by rw [idL_len]; omega)
  rw [idL_len] at hI ⊢
  have kA := (Keeps.refl w1).alloc (.cells #[.slice pv nv cv] 24)
  go_wp2_with fail
  refine (HV.out w1 kI).mono ?_; rintro e w3 ⟨u, rfl, hu, k3⟩
  clear HV
  have kI3 := kI.trans (kA.trans k3)
  have hI3 := hI.keeps (kA.trans k3)
  obtain ⟨pu, cu, rfl, hcu, hmu, hatu, hlu⟩ := hu.ints (by omega)
  have hub : w.heap.size ≤ (w1.alloc (.cells #[.slice pv nv cv] 24)).heap.size := by have := kI.size; simp; omega
  have hu3 := hu.mono hub
  unfold maxLen at hmu
  clear hI hatu hu
  go_wp2_with fail
  go_loopw [14] (fun i' wr => ∃ i : Nat, i ≤ M.length ∧ i' = .int .i64 i ∧ OwnL wr w.heap.size (.slice (some ⟨g, 0, none⟩) 6 cap) (liftF a mask (M.take i)) ∧ OwnI wr w.heap.size (.slice pu M.length cu) M ∧ Keeps w wr) (fun i _ => M.length - (intOf i).toNat)
  case atStart => exact ⟨0, by omega, rfl, by simpa [liftF] using hI3, hu3, kI3⟩
  case round =>
    obtain ⟨i, hi, rfl, hI, hu, kw⟩ := hrel
    clear hI3 hu3 kI3
    by_cases hlt : i < M.length
    · have hlt' : (i : Int) < M.length := by omega
      obtain ⟨_, _, e1, _, _, hatu, _⟩ := hu.ints (by omega)
      cases e1
      obtain ⟨b, off, rfl, hc⟩ := hatu.int i hlt
      clear hatu
      obtain ⟨x, hx6, hx⟩ := HMR.out M[i] (List.getElem_mem hlt)
      have hst := HS6.out (M.take i) (x : Int)
      rw [← hx, ← List.take_succ_eq_append_getElem hlt, hx] at hst
      rw [hx] at hc
      have hlen := HL6.out (M.take i)
      have hw0 := kw.size
      have HH := hid (has_any mask x wr hm (by omega))
      have hx6' : (x : Int) < 6 := by omega
      clear hx
      have HST := hid hst; clear hst
      cases hb : mask.testBit x
      all_goals
        rw [hb] at HH
        have HB := hid hb; clear hb
        go_wp2_with fail
        refine HH.out.mono ?_; rintro e w' ⟨rfl, rfl⟩
        go_wp2_with fail
        refine (variable_any x _).mono ?_; rintro e w4 ⟨v4, rfl, hv4, k4⟩
        go_wp2_with fail
        refine (join_any _ _ _ _ _ _ ((hv.keeps kw).keeps k4) (hv4.nds (by simp [Fm.enc])) (by simp [Fm.enc]; omega)).mono ?_; rintro e w5 ⟨v5, rfl, hv5, k5⟩
        have k45 := k4.trans k5
        obtain ⟨g', cap', c5, e5, hg2, hg3, hc5, hf5, hI5, gr5⟩ := hI.store k45 (hv5.mono k4.size) hw0 x (by rw [hlen]; omega)
        rw [hlen] at e5
        cases e5
        obtain ⟨p5, n5, q5, rfl⟩ : ∃ p n c, v5 = .slice p n c := by obtain ⟨p, c, e, _⟩ := At.of_own hv5; exact ⟨p, _, c, e⟩
        have hu5 := (hu.keeps k45).beside (hI.keeps k45) rfl gr5
        have kw5 := (kw.trans k45).grown gr5 (fun j hj => by cases hj; exact hg2)
        clear hc
        go_wp2_with fail
        go_roundw
        case rel =>
          refine ⟨i + 1, by omega, by go_num, ?_, hu5, kw5⟩
          rw [HST.out]
          simpa [liftI, HB.out, Fm.enc] using hI5
        case measure => simp [intOf]; omega
    · obtain rfl : i = M.length := by omega
      go_wp2
      go_ret
      rw [List.take_length] at hI
      exact ⟨_, rfl, hI, kw⟩
--
set_option maxRecDepth 20000 in
set_option maxHeartbeats 4000000 in
theorem l31Lift_any (a : List Nd) (mask : Nat) (v : Value) (w : World) (hv : Nds w v a) (ha : a.all okNd = true) (hl : a.length ≤ 1000000) (hm : mask < 64) : Calls Tryz.prog 115 #[v, .int .i64 mask] w (RetL w (liftL a mask)) := by
  obtain ⟨pv, nv, cv, rfl⟩ := hv.shape
  have HA := hid ha; clear ha
  have hmr := mem_range (vm a)
  have hml := low_len (vm a) 6
  have hs6 := liftF_snoc a mask
  have hl6 := liftF_len a mask
  have HV := hid (fun w1 (k : Keeps w w1) => l02Variables_any a _ _ (hv.keeps k) HA.out)
  unfold liftL
  change (mem (vm a)).length ≤ 6 at hml
  generalize mem (vm a) = M at *
  have HS6 := hid hs6; clear hs6
  have HL6 := hid hl6; clear hl6
  have HMR := hid hmr; clear hmr
  go_enter Tryz.func115, Tryz.ntmps115
  go_wp2_with fail
  refine (l03Self_any w).mono ?_; rintro e w1 ⟨vI, rfl, hI, kI⟩
  obtain ⟨g, cap, rfl, hg0, hg1⟩ := hI.shape (by rw [idL_len]; omega)
  rw [idL_len] at hI ⊢
  go_wp2_with fail
  refine (HV.out w1 kI).mono ?_; rintro e w3 ⟨u, rfl, hu, k3⟩
  clear HV
  have kI3 := kI.trans k3
  have hI3 := hI.keeps k3
  obtain ⟨pu, cu, rfl, hcu, hmu, hatu, hlu⟩ := hu.ints (by omega)
  have hu3 := hu.mono kI.size
  unfold maxLen at hmu
  clear hI hatu hu
  go_wp2_with fail
  go_loopw [7] (fun i' wr => ∃ i : Nat, i ≤ M.length ∧ i' = .int .i64 i ∧ OwnL wr w.heap.size (.slice (some ⟨g, 0, none⟩) 6 cap) (liftF a mask (M.take i)) ∧ OwnI wr w.heap.size (.slice pu M.length cu) M ∧ Keeps w wr) (fun i _ => M.length - (intOf i).toNat)
  case atStart => exact ⟨0, by omega, rfl, by simpa [liftF] using hI3, hu3, kI3⟩
  case round =>
    obtain ⟨i, hi, rfl, hI, hu, kw⟩ := hrel
    clear hI3 hu3 kI3
    by_cases hlt : i < M.length
    · have hlt' : (i : Int) < M.length := by omega
      have hle0 : (0 : Int) ≤ i := by omega
      obtain ⟨_, _, e1, _, _, hatu, _⟩ := hu.ints (by omega)
      cases e1
      obtain ⟨b, off, rfl, hc⟩ := hatu.int i hlt
      clear hatu
      obtain ⟨x, hx6, hx⟩ := HMR.out M[i] (List.getElem_mem hlt)
      have hst := HS6.out (M.take i) (x : Int)
      rw [← hx, ← List.take_succ_eq_append_getElem hlt, hx] at hst
      rw [hx] at hc
      have hlen := HL6.out (M.take i)
      have hw0 := kw.size
      have HH := hid (l01Bit_any mask x wr hm (by omega))
      have hx6' : (x : Int) < 6 := by omega
      have hx0' : (0 : Int) ≤ x := by omega
      have hcd : wr.drew.cell? ⟨b, off + i, none⟩ = some (.int .i64 x) := hc
      have kd := (Keeps.refl wr).drew
      have hne : ∀ (w5 : World) {l : List (List Nd)} {q : Nat}, OwnL wr w.heap.size (.slice (some ⟨g, 0, none⟩) 6 cap) l → OwnI wr w.heap.size (.slice (some ⟨b, off, none⟩) q cu) M → Keeps wr w5 → some b ≠ some g := by
        intro w5 l q h1 h2 k5
        obtain ⟨vs', hr'⟩ := (h1.keeps k5).typed
        exact type_ne hr' (h2.keeps k5) tyni (k := g) rfl
      clear hx
      have HST := hid hst; clear hst
      cases hb : mask.testBit x
      all_goals
        rw [hb] at HH
        have HB := hid hb; clear hb
        go_wp2_with fail
        refine HH.out.mono ?_; rintro e w' ⟨rfl, rfl⟩
        go_wp2_with fail
        go_region_held3 (fun w' => w'.cell? ⟨b, off + i, none⟩ = some (.int .i64 x)) (first | exact hcd | exact hc4 | exact hc5 | exact hc6) (first
          | (go_at_call 126; refine (l02Var_any x _).mono ?_; rintro e w4 ⟨v4, rfl, hv4, k4⟩; have hc4 := k4.cell hcd)
          | (go_at_call 127; refine (l02Pair_any _ _ _ _ _ _ (((hv.keeps kw).keeps kd).keeps k4) (hv4.nds (by simp [Fm.enc])) (by simp [Fm.enc]; omega)).mono ?_; rintro e w5 ⟨v5, rfl, hv5, k5⟩; have hc5 := k5.cell hc4; have k45 := kd.trans (k4.trans k5); obtain ⟨g', cap', c5, e5, hg2, hg3, hcg5, hf5, hI5, gr5⟩ := hI.store k45 (hv5.mono k4.size) hw0 x (by rw [hlen]; omega); rw [hlen] at e5; cases e5; have hu5 := (hu.keeps k45).beside (hI.keeps k45) rfl gr5; obtain ⟨p5, n5, q5, rfl⟩ : ∃ p n c, v5 = .slice p n c := (by obtain ⟨p, c, e, _⟩ := At.of_own hv5; exact ⟨p, _, c, e⟩); have hc6 := World.grownBy.cell gr5 hc5 (hne w5 hI hu k45)))
        go_wp2_with fail
        go_roundw
        case rel =>
          refine ⟨i + 1, by omega, by go_num, ?_, hu5, (kw.trans k45).grown gr5 (fun j hj => by cases hj; exact hg2)⟩
          rw [HST.out]
          simpa [liftI, HB.out, Fm.enc] using hI5
        case measure => simp [intOf]; omega
    · obtain rfl : i = M.length := by omega
      go_wp2
      go_ret
      rw [List.take_length] at hI
      exact ⟨_, rfl, hI, kw⟩
end Go.Proofs.YtpbbfoliabgkpaaGreat
/- Walks: the formulas of a rule; arrows; members of a list of numbers. -/
namespace Go.Proofs.YtpbbfoliabgkpaaGreat
open Go.RowKit
/-- an append onto a list of lists without spare room: new memory alone -/
theorem run_appClip (w : World) (ty : TypeId) (p : Option Addr) (n : Nat) (xs : List (List Nd)) (u : Value) (y : List Nd) (q : Addr) (c : Nat) (hv : NdsL w (.slice p n n) xs) (hu : Nds w u y) (hat : At w (some q) [u]) (hlen : xs.length ≤ 1000000) :
    ∃ v' w', (Builtin.append_ #[35, 35] ty #[.slice p n n, .slice (some q) 1 c]).run Tryz.prog w = .ok v' w' ∧ NdsL w' v' (xs ++ [y]) ∧ Keeps w w' := by
  obtain ⟨i0, hi, hz0, hz1, hz2⟩ := info_parts infoL
  have hv0 := hv
  obtain ⟨p', cap', e, hle, hmx, hlm, _⟩ := hv
  cases e
  have hnews : ∀ j z, [u][j]? = some z → w.cell? (q.add j) = some z := by
    intro j z hz
    obtain ⟨hj, rfl⟩ := List.getElem?_eq_some_iff.1 hz
    obtain ⟨b, off, hp, hc⟩ := hat j hj
    cases hp
    have hadd : (⟨b, off, none⟩ : Addr).add j = ⟨b, off + j, none⟩ := by unfold Addr.add; split <;> simp_all
    rw [hadd]; exact hc
  have kk : ∀ o, Keeps w (w.drew.alloc o) := fun o => ((Keeps.refl w).drew).alloc o
  have fin : ∀ (olds : List Value) (cap' : Nat) (tl : Array Value), olds.length = xs.length → (∀ i (h1 : i < olds.length) (h2 : i < xs.length), Nds w olds[i] xs[i]) → xs.length + 1 ≤ cap' → cap' ≤ maxLen →
      NdsL (w.drew.alloc (.cells (olds.toArray ++ [u].toArray ++ tl) 24)) (.slice (some ⟨w.heap.size, 0, none⟩) (xs.length + 1) cap') (xs ++ [y]) := by
    intro olds cap' tl hl hr h1 h2
    refine ⟨some ⟨w.heap.size, 0, none⟩, cap', by simp, by simpa using h1, h2, by simp; omega, fun i hi => ?_⟩
    have hi' : i < xs.length + 1 := by simpa using hi
    have hcell : ∀ (z : Value), (olds ++ [u])[i]? = some z → (w.drew.alloc (.cells (olds.toArray ++ [u].toArray ++ tl) 24)).cell? ⟨w.heap.size, 0 + i * 1 + 0, none⟩ = some z := by
      intro z hz
      have : (w.drew.alloc (.cells (olds.toArray ++ [u].toArray ++ tl) 24)).cell? ⟨w.drew.heap.size, 0 + i * 1 + 0, none⟩ = (olds.toArray ++ [u].toArray ++ tl)[0 + i * 1 + 0]? := World.cell?_alloc_new ..
      rw [show w.heap.size = w.drew.heap.size from rfl, this]
      rw [show 0 + i * 1 + 0 = i by omega, Array.getElem?_append_left (by simp; omega)]
      simpa using hz
    by_cases hlt : i < xs.length
    · refine ⟨w.heap.size, 0, fun _ => olds[i]'(by omega), rfl, fun c hc => ?_, ?_⟩
      · obtain rfl : c = 0 := by omega
        exact hcell _ (by rw [List.getElem?_append_left (by omega), List.getElem?_eq_getElem])
      · rw [List.getElem_append_left hlt]
        exact (hr i (by omega) hlt).keeps (kk _)
    · obtain rfl : i = xs.length := by omega
      refine ⟨w.heap.size, 0, fun _ => u, rfl, fun c hc => ?_, ?_⟩
      · obtain rfl : c = 0 := by omega
        exact hcell _ (by rw [List.getElem?_append_right (by omega)]; simp [hl])
      · rw [List.getElem_append_right (Nat.le_refl _)]
        simpa using hu.keeps (kk _)
  cases p with
  | none =>
    have hx : xs = [] := by
      cases xs with
      | nil => rfl
      | cons x l =>
        obtain ⟨b, off, u', hp, _⟩ := hv0.get 0 (by simp)
        cases hp
    subst hx
    have hr := run_append_nil (P := Tryz.prog) w 35 ty 24 i0 _ Tryz.underlying35 hi hz0 q 1 c [u] (by rw [hz1]; rfl) hnews (by omega) (by omega) (by rw [hz2]; omega)
    refine ⟨_, _, hr, ?_, kk _⟩
    have := fin [] (grownCap w 1 0 24) (Builtin.zeroCells (Value.slice none 0 0).cells (grownCap w 1 0 24 - 1)) rfl (fun i h => by simp at h) (grownCap_ge w 1 0 _) (grownCap_le_maxLen w 1 0 _ (by simp [maxLen]))
    simpa using this
  | some ad =>
    have hcells : ∀ i (h : i < xs.length), ∃ z, w.cell? (ad.add i) = some z ∧ Nds w z xs[i] := by
      intro i h
      obtain ⟨b, off, u', hp, hc, hn⟩ := hv0.get i h
      cases hp
      have hadd : (⟨b, off, none⟩ : Addr).add i = ⟨b, off + i, none⟩ := by unfold Addr.add; split <;> simp_all
      exact ⟨u', by rw [hadd]; exact hc, hn⟩
    have hol : ((List.range xs.length).map fun i => (w.cell? (ad.add i)).getD undef).length = xs.length := by simp
    have holds : ∀ j z, ((List.range xs.length).map fun i => (w.cell? (ad.add i)).getD undef)[j]? = some z → w.cell? (ad.add j) = some z := by
      intro j z hz
      obtain ⟨hj, e⟩ := List.getElem?_eq_some_iff.1 hz
      simp at hj
      obtain ⟨z', hz', _⟩ := hcells j hj
      simp [hz'] at e
      rw [hz', e]
    have hr := run_append_grow (P := Tryz.prog) w 35 ty 24 i0 _ Tryz.underlying35 hi hz0 ad xs.length xs.length _ (by rw [hz1]; simp) holds q 1 c [u] (by rw [hz1]; rfl) hnews (by omega) (by omega) (growslice_fits (by omega) (by rw [hz2]; omega))
    refine ⟨_, _, hr, ?_, kk _⟩
    have := fin _ (grownCap w (xs.length + 1) xs.length 24) (Builtin.zeroCells (Value.slice none 0 0).cells (grownCap w (xs.length + 1) xs.length 24 - (xs.length + 1))) hol (fun i h1 h2 => by
      obtain ⟨z', hz', hn⟩ := hcells i h2
      simpa [hz'] using hn) (grownCap_ge w _ _ _) (grownCap_le_maxLen w _ _ _ (by simp [maxLen]; omega))
    exact this
theorem appClipK {w : World} {o : Oper} {a : Act} {K : Act → World → Prop} {Q : Exit → Act → World → Prop} (s x : Operand)
    (ho : o.op = .call { callee := .builtin .append, args := #[s, x], argTypes := #[35, 35] }) (p : Option Addr) (n : Nat) (xs : List (List Nd)) (hs : a.eval s = .slice p n n) (hv : NdsL w (.slice p n n) xs)
    (u : Value) (y : List Nd) (hu : Nds w u y) (q : Addr) (c : Nat) (hx : a.eval x = .slice (some q) 1 c) (hat : At w (some q) [u]) (hlen : xs.length ≤ 1000000)
    (h : ∀ v' w', NdsL w' v' (xs ++ [y]) → Keeps w w' → K (a.put o.dst v') w') : o.wp Tryz.prog a w K Q := by
  obtain ⟨v', w', hr, h1, h2⟩ := run_appClip w o.type p n xs u y q c hv hu hat hlen
  unfold Oper.wp execOp
  simp only [ho, resolve, invoke, builtin, Sem.run_bind, Sem.run_pure, Result.andThen_ok, List.map_toArray, List.map_cons, List.map_nil, hs, hx, hr]
  exact h v' w' h1 h2
theorem stepClip {w : World} {ops : Array Oper} {o : Oper} {a : Act} {K : Act → World → Prop} {Q : Exit → Act → World → Prop} {E : Prop} (hgd : o.guard = none) (s x : Operand)
    (ho : o.op = .call { callee := .builtin .append, args := #[s, x], argTypes := #[35, 35] }) (p : Option Addr) (n : Nat) (xs : List (List Nd)) (hs : a.eval s = .slice p n n) (hv : NdsL w (.slice p n n) xs)
    (u : Value) (y : List Nd) (hu : Nds w u y) (q : Addr) (c : Nat) (hx : a.eval x = .slice (some q) 1 c) (hat : At w (some q) [u]) (hlen : xs.length ≤ 1000000)
    (h : ∀ v' w', NdsL w' v' (xs ++ [y]) → Keeps w w' → K (a.put o.dst v') w') : if Region.wanted o (yielded ops a.tmps) = true then Oper.wp Tryz.prog o a w K Q else E := by
  rw [if_pos (by simp [Region.wanted, hgd])]
  exact appClipK s x ho p n xs hs hv u y hu q c hx hat hlen h
--
theorem clip_any (p : Option Addr) (n cap : Nat) (w : World) (h1 : n ≤ cap) (_h2 : cap ≤ maxLen) : Calls Tryz.prog 120 #[.slice p n cap] w fun e w' => e = .returned (.slice p n n) ∧ w = w' := by
  unfold maxLen at _h2
  go_enter Tryz.func120, Tryz.ntmps120
  go_wp2
  go_ret
  exact ⟨by first | rfl | simp, rfl⟩
--
set_option maxRecDepth 20000 in
set_option maxHeartbeats 2000000 in
theorem formulas_any (xs : List (List Nd)) (c : List Nd) (v u : Value) (w : World) (hv : NdsL w v xs) (hu : Nds w u c) (hl : xs.length ≤ 1000000) :
    Calls Tryz.prog 80 #[.agg #[v, u]] w fun e w' => ∃ v', e = .returned v' ∧ NdsL w' v' (xs ++ [c]) ∧ Keeps w w' := by
  have hv0 := hv
  obtain ⟨p, cap, rfl, hle, hmx, hlm, _⟩ := hv
  obtain ⟨pu, nu, cu, rfl⟩ := hu.shape
  have k1 := (Keeps.refl w).alloc (.cells #[.slice p xs.length cap, .slice pu nu cu] 37)
  have kd := k1.drew
  have kl := (k1.alloc (.cells #[.slice pu nu cu] 24)).drew
  have hb0 : (w.alloc (.cells #[.slice p xs.length cap, .slice pu nu cu] 37)).drew.cell? ⟨w.heap.size, 0, none⟩ = some (.slice p xs.length cap) := by show (w.alloc _).cell? _ = _; simp
  have hb1 : (w.alloc (.cells #[.slice p xs.length cap, .slice pu nu cu] 37)).drew.cell? ⟨w.heap.size, 1, none⟩ = some (.slice pu nu cu) := by show (w.alloc _).cell? _ = _; simp
  have ka := (Keeps.refl (w.alloc (.cells #[.slice p xs.length cap, .slice pu nu cu] 37)).drew).alloc (.cells #[.slice pu nu cu] 24)
  have hc0 := ka.cell hb0
  have hc1 := ka.cell hb1
  have hvl := hv0.keeps kl
  have hclip : NdsL ((w.alloc (.cells #[.slice p xs.length cap, .slice pu nu cu] 37)).alloc (.cells #[.slice pu nu cu] 24)).drew (.slice p xs.length xs.length) xs := by
    obtain ⟨p', cap', e, h1, h2, h3, h4⟩ := hvl
    cases e
    exact ⟨p, xs.length, rfl, Nat.le_refl _, by omega, h3, h4⟩
  have hul := hu.keeps kl
  have hatl : At ((w.alloc (.cells #[.slice p xs.length cap, .slice pu nu cu] 37)).alloc (.cells #[.slice pu nu cu] 24)).drew (some ⟨w.heap.size + 1, 0, none⟩) [.slice pu nu cu] := by
    have := (At.lit1 (w.alloc (.cells #[.slice p xs.length cap, .slice pu nu cu] 37)) (.slice pu nu cu) 24).keeps (Keeps.refl _).drew
    rwa [show (w.alloc (.cells #[.slice p xs.length cap, .slice pu nu cu] 37)).heap.size = w.heap.size + 1 by simp] at this
  clear hv0 hvl hu
  go_enter Tryz.func80, Tryz.ntmps80
  go_wp2_with fail
  go_region_held3 (fun w' => w'.cell? ⟨w.heap.size, 0, none⟩ = some (.slice p xs.length cap) ∧ w'.cell? ⟨w.heap.size, 1, none⟩ = some (.slice pu nu cu)) (first | exact ⟨hb0, hb1⟩ | exact ⟨hc0, hc1⟩ | exact ⟨hd0, hd1⟩) (first
    | (go_at_call 120; refine (clip_any _ _ _ _ hle hmx).mono ?_; rintro e w' ⟨rfl, rfl⟩)
    | (refine stepClip rfl (.tmp 5) (.tmp 8) rfl p xs.length xs rfl hclip _ c hul _ 1 rfl hatl hl ?_; intro v2 w2 hv2 k2; have hd0 := k2.cell hc0; have hd1 := k2.cell hc1))
  all_goals
    go_wp2
    go_ret
    exact ⟨_, rfl, hv2, kl.trans k2⟩
--
set_option maxRecDepth 20000 in
set_option maxHeartbeats 1000000 in
theorem arrow_two (x y : List Nd) (v : Value) (w : World) (hv : NdsL w v [x, y]) (hl : x.length + y.length ≤ 1000000000) : Calls Tryz.prog 124 #[v] w (RetN w (⟨4, 0⟩ :: (x ++ y))) := by
  have hv0 := hv
  obtain ⟨p, cap, rfl, hle, hmx, hlm, _⟩ := hv
  simp only [List.length_cons, List.length_nil] at *
  unfold maxLen at hmx
  obtain ⟨b, off, u1, rfl, hc1, h1⟩ := hv0.get 0 (by simp)
  obtain ⟨b', off', u2, e, hc2, h2⟩ := hv0.get 1 (by simp)
  cases e
  simp only [List.getElem_cons_zero, List.getElem_cons_succ] at h1 h2
  rw [Nat.add_zero] at hc1
  obtain ⟨p1, n1, q1, rfl⟩ := h1.shape
  obtain ⟨p2, n2, q2, rfl⟩ := h2.shape
  clear hv0
  have HJ := hid (join_any 4 x y _ _ w h1 h2 (by omega))
  clear h1 h2
  go_enter Tryz.func124, Tryz.ntmps124
  go_wp2
  go_loopw [3, 4] (fun o i' wr => (i' = .int .i64 0 ∧ o = .slice p2 n2 q2 ∧ wr = w) ∨ (i' = .int .i64 (-1) ∧ OwnN wr w.heap.size o (⟨4, 0⟩ :: (x ++ y)) ∧ Keeps w wr)) (fun _ i _ => (intOf i + 1).toNat)
  case atStart => exact .inl ⟨rfl, rfl, rfl⟩
  case round =>
    rcases hrel with ⟨rfl, rfl, rfl⟩ | ⟨rfl, ho, kw⟩
    · go_wp2_with fail
      refine HJ.out.mono ?_; rintro e w2 ⟨v2, rfl, hv2, k2⟩
      go_wp2_with fail
      go_roundw
      case rel => exact .inr ⟨rfl, hv2, k2⟩
      case measure => simp [intOf]
    · go_wp2
      go_ret
      exact ⟨_, rfl, ho, kw⟩
--
set_option maxRecDepth 20000 in
set_option maxHeartbeats 1000000 in
theorem l01Has_any (a : List Int) (x : Int) (v : Value) (w : World) (hv : Ints w v a) : Calls Tryz.prog 125 #[v, .int .i64 x] w fun e w' => e = .returned (.bool (a.any fun y => y == x)) ∧ w = w' := by
  obtain ⟨p, cap, rfl, hle, hmx, hat, hlen⟩ := hv
  unfold maxLen at hmx
  go_enter Tryz.func125, Tryz.ntmps125
  go_wp2
  go_loop [4, 5] (fun r i' => ∃ k : Nat, k ≤ a.length ∧ i' = .int .i64 k ∧ r = .bool false ∧ ∀ j (h : j < a.length), j < k → (a[j] == x) = false) (fun _ i => a.length - (intOf i).toNat)
  case atStart => exact ⟨0, by omega, rfl, rfl, fun j h hj => by omega⟩
  case round =>
    obtain ⟨k, hk, rfl, rfl, hs⟩ := hrel
    have Hs := hid hs; clear hs
    by_cases hlt : k < a.length
    · obtain ⟨b, off, rfl, hc⟩ := hat.int k hlt
      clear hat
      have hlt' : (k : Int) < a.length := by omega
      cases hf : (a[k] == x)
      · have Hf := hid hf
        go_wp2
        go_round
        case rel => exact ⟨k + 1, by omega, by go_num, rfl, fun j h hj => by
          by_cases e : j = k
          · subst e; exact Hf.out
          · exact Hs.out j h (by omega)⟩
        case measure => simp [intOf]; omega
      · have Hf := hid hf
        go_wp2
        go_ret
        exact ⟨ret_bool (List.any_eq_true.2 ⟨_, List.getElem_mem hlt, Hf.out⟩).symm, rfl⟩
    · go_wp2
      go_ret
      refine ⟨ret_bool ?_, rfl⟩
      symm; rw [Bool.eq_false_iff]; intro h
      obtain ⟨y, hy, h2⟩ := List.any_eq_true.1 h
      obtain ⟨j, hj, rfl⟩ := List.getElem_of_mem hy
      rw [Hs.out j hj (by omega)] at h2; cases h2
theorem has45 : ∀ m : Fin 64, ((mem m).any fun y => y == 4) = (m : Nat).testBit 4 ∧ ((mem m).any fun y => y == 5) = (m : Nat).testBit 5 := by decide +kernel
end Go.Proofs.YtpbbfoliabgkpaaGreat
/- Lists of node lists whose rows were there before: the call's own header, rows that are shared. -/
namespace Go.Proofs.YtpbbfoliabgkpaaGreat
open Go.RowKit
/-- values that read as lists of nodes -/
def RowsS (w : World) (vs : List Value) (xs : List (List Nd)) : Prop := vs.length = xs.length ∧ ∀ i (h1 : i < vs.length) (h2 : i < xs.length), Nds w vs[i] xs[i]
theorem RowsS.keeps {w w' : World} {vs : List Value} {xs : List (List Nd)} (h : RowsS w vs xs) (k : Keeps w w') : RowsS w' vs xs := ⟨h.1, fun i h1 h2 => (h.2 i h1 h2).keeps k⟩
theorem RowsS.nil (w : World) : RowsS w [] [] := ⟨rfl, fun i h => by simp at h⟩
theorem RowsS.one {w : World} {u : Value} {x : List Nd} (h : Nds w u x) : RowsS w [u] [x] := ⟨rfl, fun i h1 h2 => by
  obtain rfl : i = 0 := by simp at h1; omega
  exact h⟩
theorem RowsS.append {w : World} {vs us : List Value} {xs ys : List (List Nd)} (h : RowsS w vs xs) (k : RowsS w us ys) : RowsS w (vs ++ us) (xs ++ ys) :=
  ⟨by simp [h.1, k.1], fun i h1 h2 => by
    have hl := h.1
    by_cases hi : i < vs.length
    · rw [List.getElem_append_left hi, List.getElem_append_left (by omega)]; exact h.2 i hi (by omega)
    · rw [List.getElem_append_right (by omega), List.getElem_append_right (by omega)]
      simp at h1 h2
      have := k.2 (i - vs.length) (by omega) (by omega)
      simpa [hl] using this⟩
theorem RowsS.one' {w : World} {vs : List Value} {xs : List (List Nd)} (h : RowsS w vs xs) : ∀ u ∈ vs, u.oneCell' = true := by
  intro u hu
  obtain ⟨i, hi, rfl⟩ := List.getElem_of_mem hu
  obtain ⟨p, n, c, e⟩ := (h.2 i hi (by have := h.1; omega)).shape
  rw [e]; rfl
theorem NdsL.shapeL {w : World} {v : Value} {xs : List (List Nd)} (h : NdsL w v xs) : ∃ p n c, v = .slice p n c := by
  obtain ⟨p, c, e, _⟩ := h
  exact ⟨p, _, c, e⟩
/-- a list's values -/
theorem NdsL.vals {w : World} {p : Option Addr} {n cap : Nat} {xs : List (List Nd)} (h : NdsL w (.slice p n cap) xs) : ∃ vs, At w p vs ∧ RowsS w vs xs := by
  classical
  obtain ⟨p', cap', e, _, _, _, hel⟩ := h
  cases e
  have hex : ∀ i, i < xs.length → ∃ u, (∃ b off, p = some ⟨b, off, none⟩ ∧ w.cell? ⟨b, off + i, none⟩ = some u) ∧ ∀ h : i < xs.length, Nds w u xs[i] := fun i hi => by
    obtain ⟨b, off, f, hp, hc, hr⟩ := hel i hi
    exact ⟨f 0, ⟨b, off, hp, by simpa using hc 0 (by omega)⟩, fun _ => hr⟩
  refine ⟨(List.range xs.length).map fun i => if h : i < xs.length then Classical.choose (hex i h) else undef, fun j hj => ?_, by simp, fun i h1 h2 => ?_⟩
  · have hj' : j < xs.length := by simpa using hj
    obtain ⟨b, off, hp, hc⟩ := (Classical.choose_spec (hex j hj')).1
    refine ⟨b, off, hp, ?_⟩
    simp only [List.getElem_map, List.getElem_range, dif_pos hj']
    exact hc
  · simp only [List.getElem_map, List.getElem_range, dif_pos h2]
    exact (Classical.choose_spec (hex i h2)).2 h2
theorem ndsL_of {w : World} {p : Option Addr} {cap : Nat} {vs : List Value} {xs : List (List Nd)} (hat : At w p vs) (hr : RowsS w vs xs) (h1 : xs.length ≤ cap) (h2 : cap ≤ maxLen) (h3 : xs.length ≤ 2147483648) : NdsL w (.slice p xs.length cap) xs := by
  refine ⟨p, cap, rfl, h1, h2, h3, fun i hi => ?_⟩
  have hl := hr.1
  obtain ⟨b, off, hp, hc⟩ := hat i (by omega)
  refine ⟨b, off, fun _ => vs[i], hp, fun c hc' => ?_, hr.2 i (by omega) hi⟩
  obtain rfl : c = 0 := by omega
  simpa using hc
/-- the call's own header, over rows of the world w0 -/
def ShL (w0 w : World) (v : Value) (xs : List (List Nd)) : Prop := ∃ vs, w.ownsRow w0.heap.size 24 1 v xs.length vs ∧ RowsS w0 vs xs
theorem ShL.keeps {w0 w w' : World} {v : Value} {xs : List (List Nd)} (h : ShL w0 w v xs) (k : Keeps w w') : ShL w0 w' v xs := by
  obtain ⟨vs, ho, hr⟩ := h
  exact ⟨vs, own_keeps ho k, hr⟩
theorem ShL.ndsL {w0 w : World} {v : Value} {xs : List (List Nd)} (h : ShL w0 w v xs) (k : Keeps w0 w) (hl : xs.length ≤ 2147483648) : NdsL w v xs := by
  obtain ⟨vs, ho, hr⟩ := h
  obtain ⟨p, cap, rfl, h1, h2, hat⟩ := At.of_own ho
  exact ndsL_of hat (hr.keeps k) h1 h2 hl
theorem ShL.shape {w0 w : World} {v : Value} {xs : List (List Nd)} (h : ShL w0 w v xs) : ∃ p cap, v = .slice p xs.length cap := by
  obtain ⟨vs, ho, hr⟩ := h
  obtain ⟨p, cap, e, _⟩ := At.of_own ho
  exact ⟨p, cap, e⟩
theorem ShL.nil (w0 w : World) : ShL w0 w (.slice none 0 0) [] := ⟨[], World.ownsRow_nil w _ _ 1, RowsS.nil _⟩
theorem ShL.empty {w0 : World} (w : World) (h : w0.heap.size ≤ w.heap.size) : ShL w0 (w.alloc (.cells #[] 24)) (.slice (some ⟨w.heap.size, 0, none⟩) 0 0) [] :=
  ⟨[], World.ownsRow_made w #[] 0 h (by simp [maxLen]) (by simp), RowsS.nil _⟩
theorem ShL.emptyN {w0 : World} (w : World) {n : Nat} (hn : n = w.heap.size) (h : w0.heap.size ≤ w.heap.size) : ShL w0 (w.alloc (.cells #[] 24)) (.slice (some ⟨n, 0, none⟩) 0 0) [] := by
  subst hn; exact ShL.empty w h
theorem appShK {w : World} {o : Oper} {a : Act} {K : Act → World → Prop} {Q : Exit → Act → World → Prop} (s x : Operand)
    (ho : o.op = .call { callee := .builtin .append, args := #[s, x], argTypes := #[35, 35] }) (w0 : World) (v : Value) (xs : List (List Nd)) (hs : a.eval s = v)
    (hown : ShL w0 w v xs) (p : Option Addr) (m c : Nat) (us : List Value) (ys : List (List Nd)) (hx : a.eval x = .slice p m c) (hm : m = ys.length) (hat : At w p us) (hus : RowsS w0 us ys) (hbase : w0.heap.size ≤ w.heap.size) (hlen : xs.length + ys.length ≤ 2147483648)
    (h : ∀ v' w', ShL w0 w' v' (xs ++ ys) → w.grownBy w' v.ownBlock → (∀ k, v.ownBlock = some k → w0.heap.size ≤ k) → K (a.put o.dst v') w') : o.wp Tryz.prog a w K Q := by
  subst hm
  obtain ⟨i0, hi, hz0, hz1, hz2⟩ := info_parts infoL
  obtain ⟨vs, hrow, hr⟩ := hown
  refine wp_append_at s x _ ho _ i0 _ 1 24 Tryz.underlying35 hi hz0 hz1 hz2 rfl (by decide) w0.heap.size v _ _ hs hrow p ys.length c us hx (by simp [hus.1]) hat hus.one' (by unfold maxLen; omega) (by omega) hbase ?_
  intro v' w' h1 h2 h3
  exact h v' w' ⟨vs ++ us, by simpa using h1, hr.append hus⟩ h2 h3
theorem appSh {w : World} {ops : Array Oper} {rest : List Oper} {o : Oper} {a : Act} {Q : Exit → Act → World → Prop} (hgd : o.guard = none) (s x : Operand)
    (ho : o.op = .call { callee := .builtin .append, args := #[s, x], argTypes := #[35, 35] }) (w0 : World) (v : Value) (xs : List (List Nd)) (hs : a.eval s = v)
    (hown : ShL w0 w v xs) (p : Option Addr) (m c : Nat) (us : List Value) (ys : List (List Nd)) (hx : a.eval x = .slice p m c) (hm : m = ys.length) (hat : At w p us) (hus : RowsS w0 us ys) (hbase : w0.heap.size ≤ w.heap.size) (hlen : xs.length + ys.length ≤ 2147483648)
    (h : ∀ v' w', ShL w0 w' v' (xs ++ ys) → w.grownBy w' v.ownBlock → (∀ k, v.ownBlock = some k → w0.heap.size ≤ k) → wpList Tryz.prog ops Q rest (a.put o.dst v') w') : wpList Tryz.prog ops Q (o :: rest) a w :=
  wpList_plain hgd fun _ hK => appShK s x ho w0 v xs hs hown p m c us ys hx hm hat hus hbase hlen fun v' w' h1 h2 h3 => hK _ _ (h v' w' h1 h2 h3)
theorem stepSh {w : World} {ops : Array Oper} {o : Oper} {a : Act} {K : Act → World → Prop} {Q : Exit → Act → World → Prop} {E : Prop} (hgd : o.guard = none) (s x : Operand)
    (ho : o.op = .call { callee := .builtin .append, args := #[s, x], argTypes := #[35, 35] }) (w0 : World) (v : Value) (xs : List (List Nd)) (hs : a.eval s = v)
    (hown : ShL w0 w v xs) (p : Option Addr) (m c : Nat) (us : List Value) (ys : List (List Nd)) (hx : a.eval x = .slice p m c) (hm : m = ys.length) (hat : At w p us) (hus : RowsS w0 us ys) (hbase : w0.heap.size ≤ w.heap.size) (hlen : xs.length + ys.length ≤ 2147483648)
    (h : ∀ v' w', ShL w0 w' v' (xs ++ ys) → w.grownBy w' v.ownBlock → (∀ k, v.ownBlock = some k → w0.heap.size ≤ k) → K (a.put o.dst v') w') : if Region.wanted o (yielded ops a.tmps) = true then Oper.wp Tryz.prog o a w K Q else E := by
  rw [if_pos (by simp [Region.wanted, hgd])]
  exact appShK s x ho w0 v xs hs hown p m c us ys hx hm hat hus hbase hlen h
/-- parts of a row's cells -/
theorem At.take {w : World} {p : Option Addr} {vs : List Value} (h : At w p vs) (i : Nat) : At w p (vs.take i) := fun j hj => by
  have hj' : j < vs.length := by simp at hj; omega
  obtain ⟨b, off, hp, hc⟩ := h j hj'
  exact ⟨b, off, hp, by simpa using hc⟩
theorem At.drop {w : World} {b off : Nat} {vs : List Value} (h : At w (some ⟨b, off, none⟩) vs) (i : Nat) {o : Nat} (ho : o = off + i) : At w (some ⟨b, o, none⟩) (vs.drop i) := fun j hj => by
  subst ho
  simp at hj
  obtain ⟨b', off', hp, hc⟩ := h (i + j) (by omega)
  cases hp
  exact ⟨b, _, rfl, by rw [Nat.add_assoc, hc]; simp⟩
theorem RowsS.take {w : World} {vs : List Value} {xs : List (List Nd)} (h : RowsS w vs xs) (i : Nat) : RowsS w (vs.take i) (xs.take i) :=
  ⟨by simp [h.1], fun j h1 h2 => by
    simp at h1 h2
    simpa using h.2 j (by omega) (by omega)⟩
theorem RowsS.drop {w : World} {vs : List Value} {xs : List (List Nd)} (h : RowsS w vs xs) (i : Nat) : RowsS w (vs.drop i) (xs.drop i) :=
  ⟨by simp [h.1], fun j h1 h2 => by
    simp at h1 h2
    simpa using h.2 (i + j) (by omega) (by omega)⟩
theorem cell_newN {w : World} {n : Nat} {u : Value} {T : TypeId} (hn : n = w.heap.size) : (w.alloc (.cells #[u] T)).cell? ⟨n, 0, none⟩ = some u := by subst hn; simp
theorem cell_newN2 {w : World} {n : Nat} {u : Value} {T : TypeId} {o : Obj} (hn : n = w.heap.size) : ((w.alloc (.cells #[u] T)).alloc o).cell? ⟨n, 0, none⟩ = some u := by
  subst hn
  rw [World.cell?_alloc_lt (h := by simp)]
  simp
theorem grown_cellB {W w1 : World} {g n c b : Nat} {u : Value} (h : W.grownBy w1 (Value.slice (some ⟨g, 0, none⟩) n c).ownBlock) (hb : b ≠ g) (hc : W.cell? ⟨b, 0, none⟩ = some u) : w1.cell? ⟨b, 0, none⟩ = some u := by
  rw [((Touch.grown h).cell (World.block_lt_of_cell? _ _ hc) (fun e => hb (by simpa [Value.ownBlock] using e))).1]
  exact hc
theorem At.of1 {w : World} {b : Nat} {u : Value} (h : w.cell? ⟨b, 0, none⟩ = some u) : At w (some ⟨b, 0, none⟩) [u] := fun j hj => by
  obtain rfl : j = 0 := by simp at hj; omega
  exact ⟨b, 0, rfl, h⟩
--
set_option maxRecDepth 20000 in
set_option maxHeartbeats 2000000 in
theorem l31Of_any (xs : List (List Nd)) (c : List Nd) (v u : Value) (w : World) (hv : NdsL w v xs) (hu : Nds w u c) (hl : xs.length ≤ 1000000) :
    Calls Tryz.prog 86 #[.agg #[v, u]] w fun e w' => ∃ v', e = .returned v' ∧ ShL w w' v' (xs ++ [c]) ∧ Keeps w w' := by
  have hv0 := hv
  obtain ⟨p, cap, rfl, hle, hmx, hlm, _⟩ := hv
  obtain ⟨pu, nu, cu, rfl⟩ := hu.shape
  obtain ⟨us, hat, hus⟩ := hv0.vals
  have hb0 : (w.alloc (.cells #[.slice p xs.length cap, .slice pu nu cu] 37)).cell? ⟨w.heap.size, 0, none⟩ = some (.slice p xs.length cap) := by simp
  have hb1 : (w.alloc (.cells #[.slice p xs.length cap, .slice pu nu cu] 37)).cell? ⟨w.heap.size, 1, none⟩ = some (.slice pu nu cu) := by simp
  clear hv0
  go_enter Tryz.func86, Tryz.ntmps86
  go_wp2_with fail
  go_region_law (first
    | (refine stepSh rfl (.tmp 3) (.tmp 5) rfl w (.slice (some ⟨w.heap.size + 1, 0, none⟩) 0 0) [] rfl ?_ p _ cap us xs rfl rfl ?_ hus ?_ ?_ ?_; (focus first | exact ShL.emptyN _ (by simp) (by simp <;> omega) | exact (ShL.emptyN _ (by simp) (by simp <;> omega)).keeps ((Keeps.refl _).alloc _) | exact (ShL.emptyN _ (by simp) (by simp; try omega)).keeps (((Keeps.refl _).alloc _).drew) | exact (ShL.emptyN _ (by simp) (by simp; try omega)).keeps ((Keeps.refl _).drew)); (focus (refine hat.keeps ?_; (repeat (first | exact Keeps.refl _ | refine Keeps.alloc ?_ _ | refine Keeps.drew ?_)))); (focus first | (simp; done) | (simp; omega)); (focus first | (simp; done) | (simp; omega)); intro v1 w1 hv1 hg1 hr1; have kW : Keeps w w1 := Keeps.grown (by (repeat (first | exact Keeps.refl _ | refine Keeps.alloc ?_ _ | refine Keeps.drew ?_))) hg1 hr1; (have hq : w1.cell? ⟨w.heap.size, 1, none⟩ = some (.slice pu nu cu) := (Keeps.grown (a := w.alloc (.cells #[.slice p xs.length cap, .slice pu nu cu] 37)) (by (repeat (first | exact Keeps.refl _ | refine Keeps.alloc ?_ _ | refine Keeps.drew ?_))) hg1 (fun k hk => by simp [Value.ownBlock] at hk; simp; omega)).cell hb1); simp only [List.nil_append] at hv1; obtain ⟨p1, c1, rfl⟩ := hv1.shape)
    | (refine stepSh rfl (.tmp 3) (.tmp 5) rfl w (.slice (some ⟨w.heap.size + 1 + 1, 0, none⟩) 0 0) [] rfl ?_ p _ cap us xs rfl rfl ?_ hus ?_ ?_ ?_; (focus first | exact ShL.emptyN _ (by simp) (by simp <;> omega) | exact (ShL.emptyN _ (by simp) (by simp <;> omega)).keeps ((Keeps.refl _).alloc _) | exact (ShL.emptyN _ (by simp) (by simp; try omega)).keeps (((Keeps.refl _).alloc _).drew) | exact (ShL.emptyN _ (by simp) (by simp; try omega)).keeps ((Keeps.refl _).drew)); (focus (refine hat.keeps ?_; (repeat (first | exact Keeps.refl _ | refine Keeps.alloc ?_ _ | refine Keeps.drew ?_)))); (focus first | (simp; done) | (simp; omega)); (focus first | (simp; done) | (simp; omega)); intro v1 w1 hv1 hg1 hr1; have kW : Keeps w w1 := Keeps.grown (by (repeat (first | exact Keeps.refl _ | refine Keeps.alloc ?_ _ | refine Keeps.drew ?_))) hg1 hr1; (have hq : w1.cell? ⟨w.heap.size, 1, none⟩ = some (.slice pu nu cu) := (Keeps.grown (a := w.alloc (.cells #[.slice p xs.length cap, .slice pu nu cu] 37)) (by (repeat (first | exact Keeps.refl _ | refine Keeps.alloc ?_ _ | refine Keeps.drew ?_))) hg1 (fun k hk => by simp [Value.ownBlock] at hk; simp; omega)).cell hb1); simp only [List.nil_append] at hv1; obtain ⟨p1, c1, rfl⟩ := hv1.shape)
    | (refine stepSh rfl (.tmp 6) (.tmp 9) rfl w _ xs rfl ?_ _ _ _ [.slice pu nu cu] [c] rfl rfl ?_ (RowsS.one hu) ?_ ?_ ?_; (focus first | exact hv1 | exact hv1.keeps ((Keeps.refl _).alloc _)); (focus first | exact At.lit1 _ _ _ | (refine At.of1 (grown_cellB hg1 ?_ (cell_newN ?_)) <;> (simp; done)) | (refine At.of1 (grown_cellB hg1 ?_ (cell_newN2 ?_)) <;> (simp; done))); (focus first | exact kW.size | (have := kW.size; simp; omega)); (focus first | (simp; done) | (simp; omega)); intro v2 w2 hv2 hg2 hr2))
  all_goals
    go_wp2
    go_ret
    refine ⟨_, rfl, hv2, ?_⟩
    first
    | exact kW.grown hg2 hr2
    | exact (kW.alloc _).grown hg2 hr2
end Go.Proofs.YtpbbfoliabgkpaaGreat
/- Rows of strings that grow; lists of texts of formulas. -/
namespace Go.Proofs.YtpbbfoliabgkpaaGreat
open Go.RowKit
def strCells (a : List ByteArray) : List Value := a.map Value.string
theorem strCells_one (a : List ByteArray) : ∀ u ∈ strCells a, u.oneCell' = true := by
  intro u hu; simp [strCells] at hu; obtain ⟨x, _, rfl⟩ := hu; rfl
theorem Strs.at {w : World} {v : Value} {a : List ByteArray} (h : Strs w v a) : ∃ p cap, v = .slice p a.length cap ∧ a.length ≤ cap ∧ cap ≤ maxLen ∧ At w p (strCells a) ∧ a.length ≤ 2147483648 := by
  obtain ⟨p, cap, hv, h1, h2, h3⟩ := h.shape
  subst hv
  refine ⟨p, cap, rfl, h1, h2, fun j hj => ?_, h3⟩
  have hj' : j < a.length := by simpa [strCells] using hj
  obtain ⟨b, off, hp, hc⟩ := h.get j hj'
  exact ⟨b, off, hp, by simpa [strCells] using hc⟩
theorem Strs.ofAt {w : World} {p : Option Addr} {cap : Nat} {a : List ByteArray} (h1 : a.length ≤ cap) (h2 : cap ≤ maxLen) (h : At w p (strCells a)) (h3 : a.length ≤ 2147483648) : Strs w (.slice p a.length cap) a := by
  refine ⟨p, cap, rfl, h1, h2, h3, fun i hi => ?_⟩
  obtain ⟨b, off, hp, hc⟩ := h i (by simpa [strCells] using hi)
  refine ⟨b, off, fun _ => .string a[i], hp, fun c hc' => ?_, rfl⟩
  obtain rfl : c = 0 := by omega
  simpa [strCells] using hc
def OwnS (w : World) (B : Nat) (v : Value) (a : List ByteArray) : Prop := w.ownsRow B 9 1 v a.length (strCells a)
theorem OwnS.strs {w : World} {B : Nat} {v : Value} {a : List ByteArray} (h : OwnS w B v a) (hl : a.length ≤ 2147483648) : Strs w v a := by
  obtain ⟨p, cap, rfl, h2, h3, h4⟩ := At.of_own h
  exact Strs.ofAt h2 h3 h4 hl
theorem OwnS.keeps {w w' : World} {B : Nat} {v : Value} {a : List ByteArray} (h : OwnS w B v a) (k : Keeps w w') : OwnS w' B v a := own_keeps h k
theorem OwnS.mono {w : World} {B B' : Nat} {v : Value} {a : List ByteArray} (h : OwnS w B v a) (k : B' ≤ B) : OwnS w B' v a := own_mono h k
theorem OwnS.nil (w : World) (B : Nat) : OwnS w B (.slice none 0 0) [] := World.ownsRow_nil w B _ 1
theorem OwnS.len {w : World} {B : Nat} {v : Value} {a : List ByteArray} (h : OwnS w B v a) : ∀ k, v.ownBlock = some k → B ≤ k ∧ k < w.heap.size := World.ownsRow.lt h
theorem infoS : (Tryz.prog.info? 9).map (fun i => (i.zero, i.size, i.bytes)) = some (some (.string ⟨#[]⟩), 1, 16) := by kernel_rfl
theorem appSK {w : World} {o : Oper} {a : Act} {K : Act → World → Prop} {Q : Exit → Act → World → Prop} (s x : Operand)
    (ho : o.op = .call { callee := .builtin .append, args := #[s, x], argTypes := #[30, 30] }) (base : Nat) (v : Value) (xs : List ByteArray) (hs : a.eval s = v) (hown : OwnS w base v xs)
    (u : Value) (ys : List ByteArray) (hx : a.eval x = u) (hu : Strs w u ys) (hbase : base ≤ w.heap.size) (hlen : xs.length + ys.length ≤ 2147483648)
    (h : ∀ v' w', OwnS w' base v' (xs ++ ys) → w.grownBy w' v.ownBlock → (∀ k, v.ownBlock = some k → base ≤ k) → K (a.put o.dst v') w') : o.wp Tryz.prog a w K Q := by
  obtain ⟨i0, hi, hz0, hz1, hz2⟩ := info_parts infoS
  obtain ⟨p, cap, rfl, _, _, hat, _⟩ := hu.at
  refine wp_append_at s x _ ho _ i0 _ 1 16 Tryz.underlying30 hi hz0 hz1 hz2 rfl (by decide) base v _ _ hs hown p _ cap _ hx (by simp [strCells]) hat (strCells_one _) (by unfold maxLen; omega) (by omega) hbase ?_
  intro v' w' h1 h2 h3
  refine h v' w' ?_ h2 h3
  unfold OwnS
  rw [List.length_append, show strCells (xs ++ ys) = strCells xs ++ strCells ys by simp [strCells]]
  exact h1
theorem appS {w : World} {ops : Array Oper} {rest : List Oper} {o : Oper} {a : Act} {Q : Exit → Act → World → Prop} (hgd : o.guard = none) (s x : Operand)
    (ho : o.op = .call { callee := .builtin .append, args := #[s, x], argTypes := #[30, 30] }) (base : Nat) (v : Value) (xs : List ByteArray) (hs : a.eval s = v) (hown : OwnS w base v xs)
    (u : Value) (ys : List ByteArray) (hx : a.eval x = u) (hu : Strs w u ys) (hbase : base ≤ w.heap.size) (hlen : xs.length + ys.length ≤ 2147483648)
    (h : ∀ v' w', OwnS w' base v' (xs ++ ys) → w.grownBy w' v.ownBlock → (∀ k, v.ownBlock = some k → base ≤ k) → wpList Tryz.prog ops Q rest (a.put o.dst v') w') : wpList Tryz.prog ops Q (o :: rest) a w :=
  wpList_plain hgd fun _ hK => appSK s x ho base v xs hs hown u ys hx hu hbase hlen fun v' w' h1 h2 h3 => hK _ _ (h v' w' h1 h2 h3)
theorem stepS {w : World} {ops : Array Oper} {o : Oper} {a : Act} {K : Act → World → Prop} {Q : Exit → Act → World → Prop} {E : Prop} (hgd : o.guard = none) (s x : Operand)
    (ho : o.op = .call { callee := .builtin .append, args := #[s, x], argTypes := #[30, 30] }) (base : Nat) (v : Value) (xs : List ByteArray) (hs : a.eval s = v) (hown : OwnS w base v xs)
    (u : Value) (ys : List ByteArray) (hx : a.eval x = u) (hu : Strs w u ys) (hbase : base ≤ w.heap.size) (hlen : xs.length + ys.length ≤ 2147483648)
    (h : ∀ v' w', OwnS w' base v' (xs ++ ys) → w.grownBy w' v.ownBlock → (∀ k, v.ownBlock = some k → base ≤ k) → K (a.put o.dst v') w') : if Region.wanted o (yielded ops a.tmps) = true then Oper.wp Tryz.prog o a w K Q else E := by
  rw [if_pos (by simp [Region.wanted, hgd])]
  exact appSK s x ho base v xs hs hown u ys hx hu hbase hlen h
theorem Strs.lit1 (w : World) (s : ByteArray) : Strs (w.alloc (.cells #[.string s] 9)) (.slice (some ⟨w.heap.size, 0, none⟩) 1 1) [s] := Strs.lit (w := w) [s] (by simp)
theorem Strs.lit2 (w : World) (s t : ByteArray) : Strs (w.alloc (.cells #[.string s, .string t] 9)) (.slice (some ⟨w.heap.size, 0, none⟩) 2 2) [s, t] := Strs.lit (w := w) [s, t] (by simp)
theorem OwnS.empty (w : World) : OwnS (w.alloc (.cells #[] 9)) w.heap.size (.slice (some ⟨w.heap.size, 0, none⟩) 0 0) [] :=
  World.ownsRow_made w #[] 0 (Nat.le_refl _) (by simp [maxLen]) (by simp)
/-- texts of formulas -/
def Txts (ss : List ByteArray) (G : List Fm) : Prop := ss.map bts = G.map Fm.body
theorem Txts.length {ss : List ByteArray} {G : List Fm} (h : Txts ss G) : ss.length = G.length := by
  have := congrArg List.length h
  simpa using this
theorem Txts.append {ss tt : List ByteArray} {G H : List Fm} (h : Txts ss G) (k : Txts tt H) : Txts (ss ++ tt) (G ++ H) := by
  unfold Txts at *; rw [List.map_append, List.map_append, h, k]
theorem Txts.get {ss : List ByteArray} {G : List Fm} (h : Txts ss G) (i : Nat) (h1 : i < ss.length) (h2 : i < G.length) : bts ss[i] = G[i].body := by
  have e : (ss.map bts)[i]? = (G.map Fm.body)[i]? := by rw [h]
  simpa [h1, h2] using e
theorem bts_inj {s t : ByteArray} (h : bts s = bts t) : s = t := by
  cases s; cases t
  unfold bts at h
  congr 1
  exact Array.toList_inj.1 h
end Go.Proofs.YtpbbfoliabgkpaaGreat
