/- Plain mathematics: relations as lists of masks, the closure by Warshall, the three properties of an order. No program in sight. -/
import Derived.Test.YtgnlfceloiilbaaGreatGP1
import Derived.Test.YtgnlfceloiilbaaGreatGMW
import Derived.Test.YtgnlfceloiilbaaGreatGU1
import Derived.Test.YtgnlfceloiilbaaGreatGNP
import Derived.Test.YtgnlfceloiilbaaGreatGHL
namespace Go.Proofs.YtgnlfceloiilbaaGreat
/-- one mask lies in another one -/
def inM (a b : Nat) : Prop := ∀ i, a.testBit i = true → b.testBit i = true
theorem inM.refl (a : Nat) : inM a a := fun _ h => h
theorem inM.trans {a b c : Nat} (h : inM a b) (k : inM b c) : inM a c := fun i hi => k i (h i hi)
theorem inM.eq {a b : Nat} (h : inM a b) (k : inM b a) : a = b := Nat.eq_of_testBit_eq fun i => by
  rw [Bool.eq_iff_iff]
  exact ⟨h i, k i⟩
theorem inM_or {a b c : Nat} : inM (a ||| b) c ↔ inM a c ∧ inM b c := by
  constructor
  · intro h
    exact ⟨fun i hi => h i (by simp [hi]), fun i hi => h i (by simp [hi])⟩
  · rintro ⟨h, k⟩ i hi
    rw [Nat.testBit_or, Bool.or_eq_true] at hi
    exact hi.elim (h i) (k i)
theorem inM_left (a b : Nat) : inM a (a ||| b) := fun i hi => by simp [hi]
theorem inM_right (a b : Nat) : inM b (a ||| b) := fun i hi => by simp [hi]
theorem or_inM {a b : Nat} (h : inM b a) : a ||| b = a := inM.eq (inM_or.2 ⟨inM.refl a, h⟩) (inM_left a b)
/-- relations that are greater -/
def leR (a b : List Nat) : Prop := a.length = b.length ∧ ∀ i, inM (a.getD i 0) (b.getD i 0)
theorem leR.refl (a : List Nat) : leR a a := ⟨rfl, fun _ => inM.refl _⟩
theorem leR.trans {a b c : List Nat} (h : leR a b) (k : leR b c) : leR a c := ⟨h.1.trans k.1, fun i => (h.2 i).trans (k.2 i)⟩
theorem leR.eq {a b : List Nat} (h : leR a b) (k : leR b a) : a = b := by
  apply List.ext_getElem h.1
  intro i h1 h2
  have := (h.2 i).eq (k.2 i)
  simpa [List.getD_eq_getElem?_getD, h1, h2] using this
/-- one step of the closure: what i sees by way of j -/
def wStep (a : List Nat) (j i : Nat) : List Nat := if (a.getD i 0).testBit j then a.set i (a.getD i 0 ||| a.getD j 0) else a
theorem wStep_len (a : List Nat) (j i : Nat) : (wStep a j i).length = a.length := by unfold wStep; split <;> simp
theorem wStep_le (a : List Nat) (j i : Nat) : leR a (wStep a j i) := by
  refine ⟨(wStep_len a j i).symm, fun k => ?_⟩
  unfold wStep
  split
  · by_cases hk : i = k
    · subst hk
      by_cases hi : i < a.length
      · simp only [List.getD_eq_getElem?_getD, List.getElem?_set_self hi, Option.getD_some]
        exact inM_left _ _
      · simp [List.getD_eq_getElem?_getD, Nat.not_lt.1 hi, inM]
    · simp only [List.getD_eq_getElem?_getD, List.getElem?_set_ne hk]
      exact inM.refl _
  · exact inM.refl _
/-- the inner loop, the outer loop -/
def wRow (a : List Nat) (j : Nat) : Nat → List Nat
  | 0 => a
  | i + 1 => wStep (wRow a j i) j i
def wAll (a : List Nat) (n : Nat) : Nat → List Nat
  | 0 => a
  | j + 1 => wRow (wAll a n j) j n
theorem wRow_le (a : List Nat) (j : Nat) : ∀ i, leR a (wRow a j i)
  | 0 => leR.refl a
  | i + 1 => (wRow_le a j i).trans (wStep_le _ _ _)
theorem wAll_le (a : List Nat) (n : Nat) : ∀ j, leR a (wAll a n j)
  | 0 => leR.refl a
  | j + 1 => (wAll_le a n j).trans (wRow_le _ _ _)
def TransR (a : List Nat) : Prop := ∀ i j, i < a.length → j < a.length → (a.getD i 0).testBit j = true → inM (a.getD j 0) (a.getD i 0)
theorem wStep_id {a : List Nat} (h : TransR a) {i j : Nat} (hi : i < a.length) (hj : j < a.length) : wStep a j i = a := by
  unfold wStep
  split
  · rename_i hb
    rw [or_inM (h i j hi hj hb)]
    apply List.ext_getElem (by simp)
    intro k h1 h2
    rw [List.getElem_set]
    split
    · rename_i e; subst e; simp [List.getD_eq_getElem?_getD, hi]
    · rfl
  · rfl
theorem wRow_id {a : List Nat} (h : TransR a) {j : Nat} (hj : j < a.length) : ∀ i, i ≤ a.length → wRow a j i = a
  | 0, _ => rfl
  | i + 1, hi => by rw [wRow, wRow_id h hj i (by omega)]; exact wStep_id h (by omega) hj
theorem wAll_id {a : List Nat} (h : TransR a) : ∀ j, j ≤ a.length → wAll a a.length j = a
  | 0, _ => rfl
  | j + 1, hj => by rw [wAll, wAll_id h j (by omega)]; exact wRow_id h (by omega) _ (Nat.le_refl _)
/-- between a relation and itself all steps are idle -/
theorem wAll_squeeze {a : List Nat} (h : wAll a a.length a.length = a) : TransR a := by
  have hrow : ∀ j, j ≤ a.length → wAll a a.length j = a := by
    intro j hj
    have h1 := wAll_le a a.length j
    have h2 : ∀ d, j + d ≤ a.length → leR (wAll a a.length j) (wAll a a.length (j + d)) := by
      intro d
      induction d with
      | zero => intro _; exact leR.refl _
      | succ d ih => intro hd; exact (ih (by omega)).trans (wRow_le _ _ _)
    have h3 := h2 (a.length - j) (by omega)
    rw [show j + (a.length - j) = a.length by omega, h] at h3
    exact h3.eq h1
  intro i j hi hj hb
  have hj1 := hrow (j + 1) (by omega)
  rw [wAll, hrow j (by omega)] at hj1
  have hmid : ∀ k, k ≤ a.length → wRow a j k = a := by
    intro k hk
    have h1 := wRow_le a j k
    have h2 : ∀ d, k + d ≤ a.length → leR (wRow a j k) (wRow a j (k + d)) := by
      intro d
      induction d with
      | zero => intro _; exact leR.refl _
      | succ d ih => intro hd; exact (ih (by omega)).trans (wStep_le _ _ _)
    have h3 := h2 (a.length - k) (by omega)
    rw [show k + (a.length - k) = a.length by omega, hj1] at h3
    exact h3.eq h1
  have hs := hmid (i + 1) (by omega)
  rw [wRow, hmid i (by omega)] at hs
  unfold wStep at hs
  rw [if_pos hb] at hs
  have h5 : (a.set i (a.getD i 0 ||| a.getD j 0)).getD i 0 = a.getD i 0 := by rw [hs]
  simp only [List.getD_eq_getElem?_getD, List.getElem?_set_self hi, Option.getD_some] at h5
  have h6 := inM_right (a.getD i 0) (a.getD j 0)
  simp only [List.getD_eq_getElem?_getD] at h6 ⊢
  rw [h5] at h6
  exact h6
/-- the closure is the relation itself exactly if it is transitive -/
theorem wAll_iff (a : List Nat) : wAll a a.length a.length = a ↔ TransR a := ⟨wAll_squeeze, fun h => wAll_id h _ (Nat.le_refl _)⟩
end Go.Proofs.YtgnlfceloiilbaaGreat
/- Relations: lists of masks, on both sides; the library's IndexFunc, ContainsFunc, Clone and Equal at []int64. -/
namespace Go.Proofs.YtgnlfceloiilbaaGreat
open Go.RowKit
/-- a mask of n elements, decided -/
def isM (n : Nat) (x : Int) : Bool := inR x 0 ((2 : Int) ^ n - 1)
theorem isM_iff (n : Nat) (x : Int) : isM n x = true ↔ ∃ k : Nat, x = k ∧ k < 2 ^ n := by
  unfold isM inR
  rw [decide_eq_true_eq]
  have hp : (2 : Int) ^ n = ((2 ^ n : Nat) : Int) := by push_cast; rfl
  rw [hp]
  constructor
  · rintro ⟨h1, h2⟩
    obtain ⟨k, rfl⟩ := Int.eq_ofNat_of_zero_le h1
    exact ⟨k, rfl, by omega⟩
  · rintro ⟨k, rfl, h⟩
    omega
theorem all_isM {n : Nat} {a : List Int} (h : a.all (isM n) = true) : ∃ b : List Nat, a = zs b ∧ ∀ x ∈ b, x < 2 ^ n := by
  induction a with
  | nil => exact ⟨[], rfl, by simp⟩
  | cons x a ih =>
    rw [List.all_cons, Bool.and_eq_true] at h
    obtain ⟨b, e1, h1⟩ := ih h.2
    obtain ⟨k, e, hk⟩ := (isM_iff n x).1 h.1
    refine ⟨k :: b, by rw [e1, e]; rfl, ?_⟩
    intro y hy
    rcases List.mem_cons.1 hy with rfl | hy
    · exact hk
    · exact h1 y hy
theorem isM_all {n : Nat} {b : List Nat} (h : ∀ x ∈ b, x < 2 ^ n) : (zs b).all (isM n) = true := by
  rw [List.all_eq_true]
  intro x hx
  simp only [zs, List.mem_map] at hx
  obtain ⟨y, hy, rfl⟩ := hx
  exact (isM_iff n _).2 ⟨y, rfl, h y hy⟩
theorem pow63 (n : Nat) (h : n ≤ 62) : IntKind.i64.wrap ((2 : Int) ^ n) = 2 ^ n ∧ IntKind.i64.wrap ((2 : Int) ^ n - 1) = 2 ^ n - 1 := by
  have : ∀ j : Fin 63, IntKind.i64.wrap ((2 : Int) ^ (j : Nat)) = (2 : Int) ^ (j : Nat) ∧ IntKind.i64.wrap ((2 : Int) ^ (j : Nat) - 1) = (2 : Int) ^ (j : Nat) - 1 := by decide +kernel
  exact this ⟨n, by omega⟩
--
theorem isMask_any (n : Nat) (x : Int) (w : World) (hn : n ≤ 8) : Calls Tryz.prog 270 #[.int .i64 n, .int .i64 x] w fun e w' => e = .returned (.bool (isM n x)) ∧ w = w' := by
  have hin : inR (n : Int) 0 30 = true := by simp [inR]; omega
  obtain ⟨e1, e2⟩ := pow63 n (by omega)
  have H1 := hid (fun w2 => inRange_any (n : Int) 0 30 w2)
  have H2 := hid (fun w2 => inRange_any x 0 ((2 : Int) ^ n - 1) w2)
  have hx : isM n x = inR x 0 ((2 : Int) ^ n - 1) := rfl
  rw [hin] at H1
  go_enter Tryz.func270, Tryz.ntmps270
  go_wp2_with fail
  refine (H1.out _).mono ?_; rintro e w2 ⟨rfl, rfl⟩
  go_wp2_with fail
  refine (H2.out _).mono ?_; rintro e w2 ⟨rfl, rfl⟩
  go_wp2_with fail
  go_ret
  exact ⟨by rw [hx]; rfl, rfl⟩
--
set_option maxHeartbeats 400000 in
theorem indexFuncI (pr : Int → Bool) (f : FuncId) (cp : Array Value) (a : List Int) (v : Value) (w : World) (hv : Ints w v a) (hcf : Enters f)
    (hf : ∀ x w1, x ∈ a → Keeps w w1 → Calls Tryz.prog f (#[.int .i64 x] ++ cp) w1 fun e w2 => e = .returned (.bool (pr x)) ∧ Keeps w1 w2) :
    Calls Tryz.prog 242 #[v, .func (.func f) #[] cp] w fun e w' => e = .returned (.int .i64 (idxOf pr a 0)) ∧ Keeps w w' := by
  have hv0 := hv
  obtain ⟨p, cap, rfl, hle, hmx, _, hlen⟩ := hv
  unfold maxLen at hmx
  have HF := hid hf; clear hf
  have hcf' : ∀ args w, (callFunc f args).run Tryz.prog w = .ok (.enter f args) w := hcf
  clear hcf
  go_enter Tryz.func242, Tryz.ntmps242
  go_wp2
  go_loopw [4, 8] (fun r i' wr => ∃ k : Nat, k ≤ a.length ∧ idxOf pr a 0 = idxOf pr (a.drop k) k ∧ Keeps w wr ∧ i' = .int .i64 k ∧ r = .int .i64 0) (fun _ i _ => a.length - (intOf i).toNat)
  case atStart => exact ⟨0, by omega, by simp, Keeps.refl w, rfl, rfl⟩
  case round =>
    obtain ⟨k, hk, hs, kw, rfl, rfl⟩ := hrel
    have Hs := hid hs; clear hs
    by_cases hlt : k < a.length
    · have hlt' : (k : Int) < a.length := by omega
      obtain ⟨_, _, e1, _, _, hat, _⟩ := hv0.keeps kw
      cases e1
      obtain ⟨b, off, rfl, h1⟩ := hat.int k hlt
      have hd := hid (idxOf_drop pr a k hlt)
      clear hv0 hat
      cases hp : pr a[k]
      all_goals
        have Hp := hid hp; clear hp
        go_wp2_with ((with_reducible refine (HF.out a[k] wr (List.getElem_mem hlt) kw).mono ?_); rintro e w2 ⟨rfl, k2⟩; rw [Hp.out])
      · go_roundw
        case rel => exact ⟨k + 1, by omega, by rw [Hs.out, hd.out, Hp.out]; rfl, kw.trans k2, by go_num, rfl⟩
        case measure => simp [intOf]; omega
      · go_ret
        exact ⟨ret_int (by rw [Hs.out, hd.out, Hp.out]; rfl), kw.trans k2⟩
    · have hlt' : ¬ (k : Int) < a.length := by omega
      go_wp2
      go_ret
      exact ⟨ret_int (by rw [Hs.out, idxOf_end _ _ _ (by omega)]), kw⟩
--
theorem containsFuncI (pr : Int → Bool) (f : FuncId) (cp : Array Value) (a : List Int) (v : Value) (w : World) (hv : Ints w v a) (hcf : Enters f)
    (hf : ∀ x w1, x ∈ a → Keeps w w1 → Calls Tryz.prog f (#[.int .i64 x] ++ cp) w1 fun e w2 => e = .returned (.bool (pr x)) ∧ Keeps w1 w2) :
    Calls Tryz.prog 154 #[v, .func (.func f) #[] cp] w fun e w' => e = .returned (.bool (a.any pr)) ∧ Keeps w w' := by
  have H := hid (indexFuncI pr f cp a v w hv hcf hf)
  clear hv hf hcf
  have he := hid (idxOf_any pr a 0)
  go_enter Tryz.func154, Tryz.ntmps154
  go_wp2_with (go_at_call 242; refine H.out.mono ?_; rintro e w2 ⟨rfl, k2⟩)
  go_ret
  exact ⟨ret_bool he.out, k2⟩
--
theorem sizeI_any (a : List Int) (v : Value) (w : World) (hv : Ints w v a) : Calls Tryz.prog 200 #[v] w fun e w' => e = .returned (.int .i64 a.length) ∧ w = w' := by
  obtain ⟨p, cap, rfl, hle, hmx, _, hlen⟩ := hv
  unfold maxLen at hmx
  go_enter Tryz.func200, Tryz.ntmps200
  go_wp2
  go_ret
  exact ⟨rfl, rfl⟩
--
theorem isRelation_1_any (x : Int) (a : List Int) (B : Nat) (v : Value) (w : World) (hv : Ints w v a) (hl : a.length ≤ 8) (hc : w.cell? ⟨B, 0, none⟩ = some v) :
    Calls Tryz.prog 269 #[.int .i64 x, .pointer (some ⟨B, 0, none⟩)] w fun e w' => e = .returned (.bool (!isM a.length x)) ∧ Keeps w w' := by
  have H1 := hid (sizeI_any a v w hv)
  have H2 := hid (isMask_any a.length x w hl)
  obtain ⟨p, cap, rfl, hle, hmx, _, hlen⟩ := hv
  go_enter Tryz.func269, Tryz.ntmps269
  go_wp2_with fail
  refine H1.out.mono ?_; rintro e w2 ⟨rfl, rfl⟩
  go_wp2_with fail
  refine H2.out.mono ?_; rintro e w2 ⟨rfl, rfl⟩
  go_wp2_with fail
  go_ret
  exact ⟨rfl, Keeps.refl _⟩
theorem enters_isRelation_1 : Enters 269 := fun _ _ => by kernel_rfl
theorem isRelation_any (a : List Int) (v : Value) (w : World) (hv : Ints w v a) (hl : a.length ≤ 8) : Calls Tryz.prog 201 #[v] w fun e w' => e = .returned (.bool (a.all (isM a.length))) ∧ Keeps w w' := by
  have kA := (Keeps.refl w).alloc (.cells #[v] 26)
  have hc : (w.alloc (.cells #[v] 26)).cell? ⟨w.heap.size, 0, none⟩ = some v := by simp
  have hva := hv.keeps kA
  have HC := hid (containsFuncI (fun x => !isM a.length x) 269 #[.pointer (some ⟨w.heap.size, 0, none⟩)] a v (w.alloc (.cells #[v] 26)) hva enters_isRelation_1 (fun x w1 _ k1 => isRelation_1_any x a w.heap.size v w1 (hva.keeps k1) hl (k1.cell hc)))
  have he : (!(a.any fun x => !isM a.length x)) = a.all (isM a.length) := by rw [List.all_eq_not_any_not]
  have HE := hid he; clear he
  clear hc hva
  obtain ⟨p, cap, rfl, hle, hmx, _, hlen⟩ := hv
  go_enter Tryz.func201, Tryz.ntmps201
  go_wp2_with fail
  refine HC.out.mono ?_; rintro e w2 ⟨rfl, k2⟩
  go_wp2_with fail
  go_ret
  exact ⟨by rw [HE.out]; rfl, kA.trans k2⟩
end Go.Proofs.YtgnlfceloiilbaaGreat
/- What stands behind a place of a slice of node lists. -/
namespace Go.Proofs.YtgnlfceloiilbaaGreat
open Go.RowKit
theorem sizeOfL (w : World) : (sizeOf 73).run Tryz.prog w = .ok 1 w := by
  obtain ⟨i0, hi, hz0, hz1, hz2⟩ := info_parts infoL
  simp [sizeOf, typeInfo, hi, hz1]
theorem tailL (b off m cap l : Nat) (i : Int) (hi : i = l) (hl : l ≤ m) (hc : m ≤ cap) :
    ∃ q, (∀ (w : World) (vs : List Value), At w (some ⟨b, off, none⟩) vs → vs.length = m → At w q (vs.drop l)) ∧
      ∀ wx, (Instr.slice 126 (.slice (some ⟨b, off, none⟩) m cap) (some (.int .i64 i)) none none).run Tryz.prog wx = .ok (.slice q (m - l) (cap - l)) wx := by
  subst hi
  have hT : Tryz.prog.underlying 126 = some (.slice (Tryz.prog.elem 126)) := by kernel_rfl
  have hE : Tryz.prog.elem 126 = 73 := by kernel_rfl
  refine ⟨if cap = l then some ⟨b, off, none⟩ else some ⟨b, off + l, none⟩, fun w vs h hvl => ?_, fun wx => ?_⟩
  · split
    · rename_i e
      have : vs.drop l = [] := List.drop_eq_nil_of_le (by omega)
      rw [this]
      exact At.nil _ _
    · exact h.drop l rfl
  · rw [run_slice_l (P := Tryz.prog) wx 126 (some ⟨b, off, none⟩) m cap hT .i64 (l : Int) (by omega) (by omega), hE, sizeOfL]
    simp only [Result.andThen_ok, sliced, Int.toNat_natCast, Nat.mul_one, Option.map_some]
    have hadd : (⟨b, off, none⟩ : Addr).add l = ⟨b, off + l, none⟩ := by unfold Addr.add; split <;> simp_all
    rw [hadd]
end Go.Proofs.YtgnlfceloiilbaaGreat
/- The reference's space while it is made: its box, the rows in it. -/
namespace Go.Proofs.YtgnlfceloiilbaaGreat
open Go.RowKit
/-- a struct in a box of the call's own -/
def BoxG (w : World) (r : Nat) (T : TypeId) (cs : List Value) : Prop := w.ownsRow r T cs.length (.slice (some ⟨r, 0, none⟩) 1 1) 1 cs
section
variable {w w' : World} {r : Nat} {T : TypeId} {cs : List Value}
theorem BoxG.cell (h : BoxG w r T cs) (i : Nat) (hi : i < cs.length) : w.cell? ⟨r, i, none⟩ = some cs[i] := by
  rw [World.ownsRow.cellAt h i (by omega)]
  exact List.getElem?_eq_getElem hi
theorem BoxG.froz (h : BoxG w r T cs) (i : Nat) : w.frozen? ⟨r, i, none⟩ = false := World.ownsRow.frozenAt h i
theorem BoxG.lt (h : BoxG w r T cs) : r < w.heap.size := (World.ownsRow.lt h r rfl).2
theorem BoxG.set (h : BoxG w r T cs) (i : Nat) (x : Value) : BoxG (w.setCell ⟨r, i, none⟩ x) r T (cs.set i x) := by
  have := (World.ownsRow.stored h i x).1
  unfold BoxG
  rw [List.length_set]
  exact this
theorem BoxG.grown (h : BoxG w r T cs) (i : Nat) (x : Value) : w.grownBy (w.setCell ⟨r, i, none⟩ x) (some r) := (World.ownsRow.stored h i x).2
theorem BoxG.keeps (h : BoxG w r T cs) (k : Keeps w w') : BoxG w' r T cs := own_keeps h k
theorem BoxG.other {B s m : Nat} {T' : TypeId} {u : Value} {ds : List Value} (h : BoxG w r T cs) (ho : w.ownsRow B T' s u m ds) (t : T' ≠ T) (k : w.grownBy w' u.ownBlock) : BoxG w' r T cs :=
  own_touch h (Touch.grown k) (fun _i e hi => type_ne ho h t hi.symm e)
theorem BoxG.made (w : World) (T : TypeId) (cs : List Value) (_h0 : 0 < cs.length) (_h1 : cs.length ≤ 1000) : BoxG (w.alloc (.cells cs.toArray T)) w.heap.size T cs := by
  have h := World.ownsRow_lit (base := w.heap.size) (e := T) (size := cs.length) w cs.toArray 1 (Nat.le_refl _) (by unfold maxLen; omega) (by simp)
  simpa [BoxG] using h
/-- a row of another type stays where the box is written -/
theorem own_boxed {B s m : Nat} {T' : TypeId} {u : Value} {ds : List Value} {i : Nat} {x : Value} (ho : w.ownsRow B T' s u m ds) (h : BoxG w r T cs) (t : T ≠ T') : (w.setCell ⟨r, i, none⟩ x).ownsRow B T' s u m ds :=
  own_touch ho (Touch.grown (h.grown i x)) (fun j e hi => by
    have : j = r := by simpa using hi
    subst this
    exact type_ne h ho t rfl e)
theorem Touch.ofBox {a : World} {S : Nat → Prop} {i : Nat} {x : Value} (t : Touch a w S) (h : BoxG w r T cs) (hr : S r) : Touch a (w.setCell ⟨r, i, none⟩ x) S :=
  t.push (h.grown i x) (fun k e => .inr (by have : r = k := by simpa using e
                                            subst this; exact hr))
end
/-! ### what is boxed -/
/-- a list without its first node -/
def tlV : Value → Value
  | .slice (some ⟨g, 0, none⟩) m cap => .slice (if cap = 1 then some ⟨g, 0, none⟩ else some ⟨g, 2, none⟩) (m - 1) (cap - 1)
  | v => v
theorem sizeOfN1 (w : World) : (sizeOf 145).run Tryz.prog w = .ok 2 w := by
  obtain ⟨i0, hi, hz0, hz1, hz2⟩ := info_parts infoN
  simp [sizeOf, typeInfo, hi, hz1]
theorem slice1 (g m cap : Nat) (hl : 1 ≤ m) (_hc : m ≤ cap) (wx : World) :
    (Instr.slice 73 (.slice (some ⟨g, 0, none⟩) m cap) (some (.int .i64 1)) none none).run Tryz.prog wx = .ok (tlV (.slice (some ⟨g, 0, none⟩) m cap)) wx := by
  have hT : Tryz.prog.underlying 73 = some (.slice (Tryz.prog.elem 73)) := by kernel_rfl
  have hE : Tryz.prog.elem 73 = 145 := by kernel_rfl
  rw [run_slice_l (P := Tryz.prog) wx 73 (some ⟨g, 0, none⟩) m cap hT .i64 1 (by omega) (by omega), hE, sizeOfN1]
  simp only [Result.andThen_ok, sliced, Option.map_some]
  rfl
theorem tail1 (g m cap : Nat) (hl : 1 ≤ m) (hc : m ≤ cap) (hm : cap ≤ maxLen) (w : World) (B : Nat) (a : List Nd) (h : OwnN w B (.slice (some ⟨g, 0, none⟩) m cap) a) (ha : a.length ≤ 2147483648) : Nds w (tlV (.slice (some ⟨g, 0, none⟩) m cap)) (a.drop 1) := by
  have h0 := h
  obtain ⟨_, _, e, _, _, hat, _⟩ := h.nds ha
  injection e with e1 e2 e3
  subst e1; subst e2; subst e3
  have hdl : (a.drop 1).length = a.length - 1 := by simp
  refine ⟨_, cap - 1, by rw [hdl]; rfl, by omega, by omega, ?_, by omega⟩
  split
  · have : a.drop 1 = [] := List.drop_eq_nil_of_le (by omega)
    rw [this]; exact At.nil _ _
  · intro j hj
    have hcd : ∀ (x : List Nd), ndCells (x.drop 1) = (ndCells x).drop 2 := by
      intro x
      cases x with
      | nil => rfl
      | cons y x => simp [ndCells]
    have hj2 : 2 + j < (ndCells a).length := by
      rw [hcd] at hj
      simp at hj
      omega
    obtain ⟨b', off', hp, hc'⟩ := hat (2 + j) hj2
    cases hp
    refine ⟨g, _, rfl, ?_⟩
    have e2 : (ndCells (a.drop 1))[j]? = (ndCells a)[2 + j]? := by rw [hcd, List.getElem?_drop]
    rw [List.getElem?_eq_getElem hj, List.getElem?_eq_getElem hj2] at e2
    rw [show 2 + j = 0 + (2 + j) by omega, hc']
    exact e2.symm
/-- rows of formulas without their first nodes -/
def InnL (w : World) (C : Nat) (v : Value) (ts : List Fm) : Prop := ∃ us, w.ownsRow C 73 1 v ts.length (us.map tlV) ∧ RowsN w C us (ts.map Fm.enc) ∧ ∀ u ∈ us, ∃ g m c, u = .slice (some ⟨g, 0, none⟩) m c
theorem InnL.keeps {w w' : World} {C : Nat} {v : Value} {ts : List Fm} (h : InnL w C v ts) (k : Keeps w w') : InnL w' C v ts := by
  obtain ⟨us, h1, h2, h3⟩ := h
  exact ⟨us, own_keeps h1 k, h2.keeps k, h3⟩
theorem InnL.empty (w : World) : InnL (w.alloc (.cells #[] 73)) w.heap.size (.slice (some ⟨w.heap.size, 0, none⟩) 0 0) [] :=
  ⟨[], World.ownsRow_made w #[] 0 (Nat.le_refl _) (by simp [maxLen]) (by simp), RowsN.nil _ _, fun u h => by cases h⟩
theorem InnL.mono {w : World} {C C' : Nat} {v : Value} {ts : List Fm} (h : InnL w C v ts) (k : C' ≤ C) : InnL w C' v ts := by
  obtain ⟨us, h1, h2, h3⟩ := h
  exact ⟨us, own_mono h1 k, h2.mono k, h3⟩
theorem InnL.touch {w w' : World} {C : Nat} {v : Value} {ts : List Fm} {S : Nat → Prop} (h : InnL w C v ts) (k : Touch w w' S) (hS : ∀ i, S i → ∃ r T s cs, w.ownsRow r T s (.slice (some ⟨i, 0, none⟩) 1 1) 1 cs ∧ T ≠ 73 ∧ T ≠ 145) : InnL w' C v ts := by
  obtain ⟨us, h1, h2, h3⟩ := h
  refine ⟨us, own_touch h1 k (fun i e hi => ?_), h2.touch k (fun i hb hi => ?_), h3⟩
  · obtain ⟨r, T, s, cs, ho, t1, _⟩ := hS i hi
    exact type_ne ho h1 t1 rfl e
  · obtain ⟨r, T, s, cs, ho, _, t2⟩ := hS i hi
    obtain ⟨j, hj, e⟩ := hb
    exact type_ne ho (h2.2 j hj (by have := h2.1; omega)) t2 rfl e
theorem InnL.boxed {w : World} {C r i : Nat} {v x : Value} {ts : List Fm} {T : TypeId} {cs : List Value} (h : InnL w C v ts) (hb : BoxG w r T cs) (t1 : T ≠ 73) (t2 : T ≠ 145) : InnL (w.setCell ⟨r, i, none⟩ x) C v ts := by
  obtain ⟨us, h1, h2, h3⟩ := h
  refine ⟨us, own_boxed h1 hb t1, ⟨h2.1, fun j a b => own_boxed (h2.2 j a b) hb t2⟩, h3⟩
theorem InnL.touchR {w w' : World} {C r : Nat} {v : Value} {ts : List Fm} {T : TypeId} {cs : List Value} (h : InnL w C v ts) (hb : BoxG w r T cs) (t1 : T ≠ 73) (t2 : T ≠ 145) (k : Touch w w' (fun i => i = r)) : InnL w' C v ts :=
  h.touch k (fun i hi => ⟨r, T, cs.length, cs, by
    have e : i = r := hi
    subst e
    exact hb, t1, t2⟩)
/-- another row of numbers grows -/
theorem InnL.grownI {w w' : World} {C B : Nat} {v u : Value} {ts : List Fm} {a : List Int} (h : InnL w C v ts) (ho : OwnI w B u a) (k : w.grownBy w' u.ownBlock) : InnL w' C v ts := by
  obtain ⟨us, h1, h2, h3⟩ := h
  refine ⟨us, own_touch h1 (Touch.grown k) (fun i e hi => type_ne ho h1 (by decide) hi.symm e), h2.touch (Touch.grown k) (fun i hb hi => ?_), h3⟩
  obtain ⟨j, hj, e⟩ := hb
  exact type_ne ho (h2.2 j hj (by have := h2.1; omega)) (by decide) hi.symm e
theorem InnL.shape {w : World} {C : Nat} {v : Value} {ts : List Fm} (h : InnL w C v ts) : ∃ p c, v = .slice p ts.length c ∧ ts.length ≤ c ∧ c ≤ maxLen := by
  obtain ⟨us, h1, _⟩ := h
  obtain ⟨p, c, e, a, b, _⟩ := At.of_own h1
  exact ⟨p, c, e, a, b⟩
theorem InnL.get {w : World} {C : Nat} {p : Option Addr} {n c : Nat} {ts : List Fm} (h : InnL w C (.slice p n c) ts) (i : Nat) (hi : i < ts.length) (hb : ∀ t ∈ ts, t.enc.length ≤ 1000) :
    ∃ b off x, p = some ⟨b, off, none⟩ ∧ w.cell? ⟨b, off + i, none⟩ = some x ∧ Nds w x (ts[i].enc.drop 1) := by
  obtain ⟨us, h1, h2, h3⟩ := h
  obtain ⟨p', c', e, _, _, hat⟩ := At.of_own h1
  cases e
  have hul : us.length = ts.length := by rw [h2.1, List.length_map]
  obtain ⟨b, off, hp, hc⟩ := hat i (by rw [List.length_map]; omega)
  have hiu : i < us.length := by omega
  have hr := h2.2 i hiu (by simpa using hi)
  obtain ⟨g, m, cc, hu⟩ := h3 us[i] (List.getElem_mem hiu)
  have hlen := hb ts[i] (List.getElem_mem hi)
  have hr' : OwnN w C (.slice (some ⟨g, 0, none⟩) m cc) ts[i].enc := by
    rw [← hu]
    simpa using hr
  have hsh := At.of_own hr'
  obtain ⟨p9, c9, e9, a9, b9, _⟩ := hsh
  cases e9
  refine ⟨b, off, _, hp, hc, ?_⟩
  rw [List.getElem_map, hu]
  exact tail1 g _ _ (by have := Fm.enc_pos ts[i]; omega) a9 b9 w C _ hr' (by omega)
end Go.Proofs.YtgnlfceloiilbaaGreat
/- The reference's space while it is made: its stages. -/
namespace Go.Proofs.YtgnlfceloiilbaaGreat
open Go.RowKit
/-- the parts whose inner formula is true in a type, as a mask -/
def mskT (E : List Fm) (t : Nat) : Nat → Nat
  | 0 => 0
  | i + 1 => if (isMo (E.getD i .fls) && innB E i t) = true then mskT E t i ||| 2 ^ i else mskT E t i
theorem mskT_lt (E : List Fm) (t : Nat) : ∀ i, mskT E t i < 2 ^ i
  | 0 => by simp [mskT]
  | i + 1 => by
    have h := mskT_lt E t i
    have h2 : 2 ^ i < 2 ^ (i + 1) := Nat.pow_lt_pow_right (by omega) (by omega)
    unfold mskT
    split
    · exact Nat.or_lt_two_pow (by omega) h2
    · omega
theorem mskT_bit (E : List Fm) (t : Nat) : ∀ i j, j < i → (mskT E t i).testBit j = (isMo (E.getD j .fls) && innB E j t)
  | 0, j, h => by omega
  | i + 1, j, h => by
    unfold mskT
    by_cases hj : j < i
    · have ih := mskT_bit E t i j hj
      split
      · rw [Nat.testBit_or, ih, Nat.testBit_two_pow]
        rw [decide_eq_false (by omega), Bool.or_false]
      · exact ih
    · obtain rfl : j = i := by omega
      have hb : (mskT E t j).testBit j = false := Nat.testBit_lt_two_pow (mskT_lt E t j)
      split
      · rename_i h2
        rw [Nat.testBit_or, Nat.testBit_two_pow, hb, h2]
        simp
      · rename_i h2
        rw [hb]
        cases hx : (isMo (E.getD j .fls) && innB E j t)
        · rfl
        · exact absurd hx h2
theorem mskT_yes {E : List Fm} {t i : Nat} (h : (isMo (E.getD i .fls) && innB E i t) = true) : mskT E t (i + 1) = mskT E t i ||| 2 ^ i := by rw [mskT, if_pos h]
theorem mskT_no {E : List Fm} {t i : Nat} (h : (isMo (E.getD i .fls) && innB E i t) = false) : mskT E t (i + 1) = mskT E t i := by rw [mskT, if_neg (by rw [h]; simp)]
def mskM (E : List Fm) (m : Nat) : Nat := mskT E m E.length
theorem mskM_lt {E : List Fm} (h8 : E.length ≤ 8) (m : Nat) : mskM E m < 256 := Nat.lt_of_lt_of_le (mskT_lt E m E.length) (two8 h8)
theorem mskM_bit {E : List Fm} {m i : Nat} (hi : i < E.length) (hm : isMo (E.getD i .fls) = true) : (mskM E m).testBit i = innB E i m := by
  unfold mskM
  rw [mskT_bit E m E.length i hi, hm, Bool.true_and]
theorem natI_map (l : List Nat) (k : Nat) : natI (l ++ [k]) = natI l ++ [(k : Int)] := by simp [natI]
/-- an append of a number, and where the new row lies -/
theorem appILK {w : World} {o : Oper} {a : Act} {K : Act → World → Prop} {Q : Exit → Act → World → Prop} (s x : Operand)
    (ho : o.op = .call { callee := .builtin .append, args := #[s, x], argTypes := #[26, 26] }) (base : Nat) (v : Value) (xs : List Int) (hs : a.eval s = v) (hown : OwnI w base v xs)
    (u : Value) (y : Int) (hx : a.eval x = u) (hu : Ints w u [y]) (hbase : base ≤ w.heap.size) (hlen : xs.length ≤ 1000000)
    (h : ∀ v' w', OwnI w' base v' (xs ++ [y]) → w.grownBy w' v.ownBlock → (∀ k, v.ownBlock = some k → base ≤ k) → (∀ k, v'.ownBlock = some k → v.ownBlock = some k ∨ w.heap.size ≤ k) → K (a.put o.dst v') w') : o.wp Tryz.prog a w K Q := by
  obtain ⟨i0, hi, hz0, hz1, hz2⟩ := info_parts infoI
  obtain ⟨p, cap, rfl, _, _, hat, _⟩ := hu
  obtain ⟨b, off, rfl, hc⟩ := hat 0 (by simp [intCells])
  refine wp_append_lies w s x _ ho base _ i0 _ 1 8 Tryz.underlying26 hi hz0 hz1 hz2 rfl (by decide) v _ _ hs hown ⟨b, off, none⟩ 1 cap [.int .i64 y] hx (by simp) ?_ (by simp [Value.oneCell']) (by omega) (by unfold maxLen; omega) (by omega) hbase _ rfl ?_
  · intro j u hj
    cases j with
    | zero => simp at hj; subst hj; simpa [Addr.add, intCells] using hc
    | succ j => simp at hj
  · intro g c' w' h2 h3 h4 h5
    refine h _ w' ?_ h3 (fun k e => (World.ownsRow.lt hown k e).1) (fun k e => ?_)
    · unfold OwnI
      rw [List.length_append, show intCells (xs ++ [y]) = intCells xs ++ [.int .i64 y] by simp [intCells]]
      exact h2
    · have : k = g := by simpa [Value.ownBlock] using e.symm
      subst this
      rcases h4 with h4 | h4
      · exact .inl h4
      · exact .inr (by omega)
theorem appIL {w : World} {ops : Array Oper} {rest : List Oper} {o : Oper} {a : Act} {Q : Exit → Act → World → Prop} (hgd : o.guard = none) (s x : Operand)
    (ho : o.op = .call { callee := .builtin .append, args := #[s, x], argTypes := #[26, 26] }) (base : Nat) (v : Value) (xs : List Int) (hs : a.eval s = v) (hown : OwnI w base v xs)
    (u : Value) (y : Int) (hx : a.eval x = u) (hu : Ints w u [y]) (hbase : base ≤ w.heap.size) (hlen : xs.length ≤ 1000000)
    (h : ∀ v' w', OwnI w' base v' (xs ++ [y]) → w.grownBy w' v.ownBlock → (∀ k, v.ownBlock = some k → base ≤ k) → (∀ k, v'.ownBlock = some k → v.ownBlock = some k ∨ w.heap.size ≤ k) → wpList Tryz.prog ops Q rest (a.put o.dst v') w') : wpList Tryz.prog ops Q (o :: rest) a w :=
  wpList_plain hgd fun _ hK => appILK s x ho base v xs hs hown u y hx hu hbase hlen fun v' w' h1 h2 h3 h4 => hK _ _ (h v' w' h1 h2 h3 h4)
/-- an inner formula is put behind the row, within a drawn region -/
theorem stepInn {w : World} {ops : Array Oper} {o : Oper} {a : Act} {K : Act → World → Prop} {Q : Exit → Act → World → Prop} {E : Prop} (hgd : o.guard = none) (s x : Operand)
    (ho : o.op = .call { callee := .builtin .append, args := #[s, x], argTypes := #[126, 126] }) (base : Nat) (v : Value) (ts : List Fm) (hs : a.eval s = v)
    (hown : InnL w base v ts) (g m c : Nat) (t : Fm) (hu : OwnN w base (.slice (some ⟨g, 0, none⟩) m c) t.enc) (hbase : base ≤ w.heap.size)
    (p : Option Addr) (cc : Nat) (hx : a.eval x = .slice p 1 cc) (hat : At w p [tlV (.slice (some ⟨g, 0, none⟩) m c)]) (hlen : ts.length ≤ 1000000)
    (h : ∀ v' w', InnL w' base v' (ts ++ [t]) → w.grownBy w' v.ownBlock → (∀ k, v.ownBlock = some k → base ≤ k) → K (a.put o.dst v') w') : if Region.wanted o (yielded ops a.tmps) = true then Oper.wp Tryz.prog o a w K Q else E := by
  rw [if_pos (by simp [Region.wanted, hgd])]
  obtain ⟨i0, hi, hz0, hz1, hz2⟩ := info_parts infoL
  obtain ⟨us, hrow, hr, h3⟩ := hown
  refine wp_append_at s x _ ho _ i0 _ 1 24 Tryz.underlying126 hi hz0 hz1 hz2 rfl (by decide) base v _ _ hs hrow p 1 cc [tlV (.slice (some ⟨g, 0, none⟩) m c)] hx (by simp) hat (by simp [tlV, Value.oneCell']) (by unfold maxLen; omega) (by omega) hbase ?_
  intro v' w' h1 h2 h4
  refine h v' w' ⟨us ++ [.slice (some ⟨g, 0, none⟩) m c], ?_, ?_, ?_⟩ h2 h4
  · rw [List.length_append, List.map_append]
    exact h1
  · rw [List.map_append]
    refine RowsN.snoc ?_ (hr.touch (Touch.grown h2) (fun i hb e => ?_))
    · exact hu.touch (Touch.grown h2) (fun i hi e => type_ne hrow hu (by decide) e.symm hi)
    · obtain ⟨j, hj, e2⟩ := hb
      exact type_ne hrow (hr.2 j hj (by have := hr.1; omega)) (by decide) e.symm e2
  · intro u hu2
    rcases List.mem_append.1 hu2 with h | h
    · exact h3 u h
    · exact ⟨g, m, c, by simpa using h⟩
/-- the first loop: kinds and inner formulas -/
structure Sp1 (w2 wr : World) (r : Nat) (lg pv v2 v3 : Value) (ks : List Int) (ts : List Fm) : Prop where
  box : BoxG wr r 170 [lg, pv, v2, v3, .slice none 0 0, .slice none 0 0, .slice none 0 0, .slice none 0 0]
  kd : OwnI wr w2.heap.size v2 ks
  inn : InnL wr w2.heap.size v3 ts
  kp : Keeps w2 wr
  hr : w2.heap.size ≤ r
theorem Sp1.keeps {w2 wr w' : World} {r : Nat} {lg pv v2 v3 : Value} {ks : List Int} {ts : List Fm} (h : Sp1 w2 wr r lg pv v2 v3 ks ts) (k : Keeps wr w') : Sp1 w2 w' r lg pv v2 v3 ks ts := ⟨h.box.keeps k, h.kd.keeps k, h.inn.keeps k, h.kp.trans k, h.hr⟩
theorem Sp1.boxK {w2 w5 w6 : World} {r : Nat} {lg pv v2 v3 : Value} {ks : List Int} {ts : List Fm} (h : Sp1 w2 w5 r lg pv v2 v3 ks ts) (g : w5.grownBy w6 v2.ownBlock) : BoxG w6 r 170 [lg, pv, v2, v3, .slice none 0 0, .slice none 0 0, .slice none 0 0, .slice none 0 0] := h.box.other h.kd (by decide) g
theorem Sp1.pushK {w2 w5 w6 : World} {r : Nat} {lg pv v2 v3 v' : Value} {ks ks' : List Int} {ts : List Fm} (h : Sp1 w2 w5 r lg pv v2 v3 ks ts) (g : w5.grownBy w6 v2.ownBlock) (h6 : OwnI w6 w2.heap.size v' ks') : Sp1 w2 (w6.setCell ⟨r, 2, none⟩ v') r lg pv v' v3 ks' ts := by
  have hb := h.boxK g
  exact ⟨hb.set 2 v', own_boxed h6 hb (by decide), (h.inn.grownI h.kd g).boxed hb (by decide) (by decide), (h.kp.grown g (fun k e => (h.kd.len k e).1)).setCell h.hr v', h.hr⟩
theorem Sp1.boxI {w2 w5 w6 : World} {r : Nat} {lg pv v2 v3 : Value} {ks : List Int} {ts : List Fm} (h : Sp1 w2 w5 r lg pv v2 v3 ks ts) (g : w5.grownBy w6 v3.ownBlock) : BoxG w6 r 170 [lg, pv, v2, v3, .slice none 0 0, .slice none 0 0, .slice none 0 0, .slice none 0 0] := by
  obtain ⟨us, h1, _⟩ := h.inn
  exact h.box.other h1 (by decide) g
theorem Sp1.pushI {w2 w5 w6 : World} {r : Nat} {lg pv v2 v3 v' : Value} {ks : List Int} {ts ts' : List Fm} (h : Sp1 w2 w5 r lg pv v2 v3 ks ts) (g : w5.grownBy w6 v3.ownBlock) (h6 : InnL w6 w2.heap.size v' ts') : Sp1 w2 (w6.setCell ⟨r, 3, none⟩ v') r lg pv v2 v' ks ts' := by
  have hb := h.boxI g
  obtain ⟨us, h1, _⟩ := h.inn
  have hk : OwnI w6 w2.heap.size v2 ks := own_touch h.kd (Touch.grown g) (fun i e hi => type_ne h1 h.kd (by decide) hi.symm e)
  exact ⟨hb.set 3 v', own_boxed hk hb (by decide), h6.boxed hb (by decide) (by decide), (h.kp.grown g (fun k e => (World.ownsRow.lt h1 k e).1)).setCell h.hr v', h.hr⟩
/-- the second loop: masks and types -/
structure Sp2 (w5 wr : World) (r : Nat) (c0 c1 c2 c3 v4 vt : Value) (M T : List Int) : Prop where
  box : BoxG wr r 170 [c0, c1, c2, c3, v4, .slice none 0 0, .slice none 0 0, .slice none 0 0]
  r4 : OwnI wr w5.heap.size v4 M
  rt : OwnI wr w5.heap.size vt T
  ap : ∀ k, v4.ownBlock = some k → vt.ownBlock ≠ some k
  to : Touch w5 wr (fun i => i = r)
theorem Sp2.keeps {w5 wr w' : World} {r : Nat} {c0 c1 c2 c3 v4 vt : Value} {M T : List Int} (h : Sp2 w5 wr r c0 c1 c2 c3 v4 vt M T) (k : Keeps wr w') : Sp2 w5 w' r c0 c1 c2 c3 v4 vt M T := ⟨h.box.keeps k, h.r4.keeps k, h.rt.keeps k, h.ap, h.to.keeps k⟩
theorem Sp2.box4 {w5 w6 w7 : World} {r : Nat} {c0 c1 c2 c3 v4 vt : Value} {M T : List Int} (h : Sp2 w5 w6 r c0 c1 c2 c3 v4 vt M T) (g : w6.grownBy w7 v4.ownBlock) : BoxG w7 r 170 [c0, c1, c2, c3, v4, .slice none 0 0, .slice none 0 0, .slice none 0 0] := h.box.other h.r4 (by decide) g
theorem Sp2.push4 {w5 w6 w7 : World} {r : Nat} {c0 c1 c2 c3 v4 vt v' : Value} {M M' T : List Int} (h : Sp2 w5 w6 r c0 c1 c2 c3 v4 vt M T) (g : w6.grownBy w7 v4.ownBlock) (h7 : OwnI w7 w5.heap.size v' M') (hn : ∀ k, v'.ownBlock = some k → v4.ownBlock = some k ∨ w6.heap.size ≤ k) :
    Sp2 w5 (w7.setCell ⟨r, 4, none⟩ v') r c0 c1 c2 c3 v' vt M' T := by
  have hb := h.box4 g
  have ht : OwnI w7 w5.heap.size vt T := own_touch h.rt (Touch.grown g) (fun i e hi => h.ap i hi.symm e)
  exact ⟨hb.set 4 v', own_boxed h7 hb (by decide), own_boxed ht hb (by decide), fun k e e5 => by
    rcases hn k e with h1 | h1
    · exact h.ap k h1 e5
    · have := (h.rt.len k e5).2; omega, (h.to.push g (fun k e => .inl (h.r4.len k e).1)).ofBox hb rfl⟩
theorem Sp2.pushT {w5 w6 w7 : World} {r : Nat} {c0 c1 c2 c3 v4 vt v' : Value} {M T T' : List Int} (h : Sp2 w5 w6 r c0 c1 c2 c3 v4 vt M T) (g : w6.grownBy w7 vt.ownBlock) (h7 : OwnI w7 w5.heap.size v' T') (hn : ∀ k, v'.ownBlock = some k → vt.ownBlock = some k ∨ w6.heap.size ≤ k) :
    Sp2 w5 w7 r c0 c1 c2 c3 v4 v' M T' := by
  have h4 : OwnI w7 w5.heap.size v4 M := own_touch h.r4 (Touch.grown g) (fun i e hi => h.ap i e hi.symm)
  exact ⟨h.box.other h.rt (by decide) g, h4, h7, fun k e e5 => by
    rcases hn k e5 with h1 | h1
    · exact h.ap k e h1
    · have := (h.r4.len k e).2; omega, h.to.push g (fun k e => .inl (h.rt.len k e).1)⟩
end Go.Proofs.YtgnlfceloiilbaaGreat
