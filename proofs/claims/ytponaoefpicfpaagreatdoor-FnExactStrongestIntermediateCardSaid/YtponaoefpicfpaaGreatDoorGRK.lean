/- A region that draws its order, by facts on its slots: each operation hands a value with its fact on, whatever order is drawn; the last one waits for all. -/
import Derived.Test.YtponaoefpicfpaaGreatDoorGBase
import Derived.Deep.RegionHeld3
import Derived.Test.YtponaoefpicfpaaGreatDoorGPP
namespace Go.Proofs.YtponaoefpicfpaaGreatDoor
open Go.RowKit
section
variable {P : Program} {md : Region.Mode} {ops : Array Oper} {Q : Exit → Act → World → Prop}
def dpdB (md : Region.Mode) (o : Oper) (j : Nat) : Bool := o.after.any fun e => Region.binds md e && e.on == j
def dstB (ops : Array Oper) (j d : Nat) : Bool := (ops[j]?).bind (·.dst) == some d
/-- what is asked of the operations' lay-out -/
def layB (md : Region.Mode) (ops : Array Oper) (L nt : Nat) (ins : List Nat) : Bool :=
  ops.size == L + 1 && ((List.range (L + 1)).all fun i => match ops[i]? with
    | some o => o.guard.isNone && o.after.all (fun e => !Region.binds md e || decide (e.on < i)) &&
        (if i == L then (List.range L).all (fun j => dpdB md o j) else match o.dst with
          | some d => decide (d < nt) && !ins.contains d && (List.range L).all (fun j => j == i || !dstB ops j d)
          | none => false)
    | none => false)
def StepOk (P : Program) (md : Region.Mode) (ops : Array Oper) (Q : Exit → Act → World → Prop) (nt : Nat) (ins : List Nat) (V : Nat → Value → World → Prop) (R : World → World → Prop) (J : World → Prop) (o : Oper) : Prop :=
  ∀ (a : Act) (w : World) (K : Act → World → Prop), a.tmps.size = nt → J w → (∀ s, ins.contains s = true → V s (a.eval (.tmp s)) w) → (∀ j d, dpdB md o j = true → dstB ops j d = true → V d (a.eval (.tmp d)) w) →
    (∀ v w', R w w' → (∀ d, o.dst = some d → V d v w') → K (a.put o.dst v) w') → Oper.wp P o a w K Q
def LastOk (P : Program) (ops : Array Oper) (Q : Exit → Act → World → Prop) (L nt : Nat) (ins : List Nat) (V : Nat → Value → World → Prop) (J : World → Prop) (o : Oper) : Prop :=
  ∀ (a : Act) (w : World) (K : Act → World → Prop), a.tmps.size = nt → a.defers = [] → J w → (∀ s, ins.contains s = true → V s (a.eval (.tmp s)) w) → (∀ j d, j < L → dstB ops j d = true → V d (a.eval (.tmp d)) w) →
    (∀ a' w', Q .normal a' w' → K a' w') → Oper.wp P o a w K Q
def stepsOk (F G : Oper → Prop) (L : Nat) : Nat → List Oper → Prop
  | _, [] => True
  | i, o :: l => (if i = L then G o else F o) ∧ stepsOk F G L (i + 1) l
theorem stepsOk_get {F G : Oper → Prop} {L : Nat} : ∀ (l : List Oper) (k i : Nat) (o : Oper), stepsOk F G L k l → l[i]? = some o → if k + i = L then G o else F o
  | [], _, _, _, _, h => by simp at h
  | x :: l, k, 0, o, h, e => by
    simp at e
    subst e
    exact h.1
  | x :: l, k, i + 1, o, h, e => by
    have := stepsOk_get l (k + 1) i o h.2 (by simpa using e)
    rwa [show k + 1 + i = k + (i + 1) by omega] at this
theorem getD_tf {listed : Array Bool} {i : Nat} (h : i < listed.size) : listed.getD i true = listed.getD i false := by
  simp [Array.getD, h]
theorem wpAny_listed (fuel : Nat) (listed : Array Bool) (a : Act) (w : World) (h : ∀ j, j < ops.size → listed.getD j true = true) (hQ : Q .normal a w) : wpAny P md ops Q fuel listed a w := by
  have hr : Region.ready md ops listed = [] := by
    rw [List.eq_nil_iff_forall_not_mem]
    intro j hj
    obtain ⟨h1, o, ho, _⟩ := mem_ready.1 hj
    rw [h j (Array.getElem?_eq_some_iff.1 ho).1] at h1
    cases h1
  cases fuel with
  | zero => exact ⟨hr, hQ⟩
  | succ n => exact ⟨fun _ => hQ, fun i hi => by rw [hr] at hi; cases hi⟩
theorem filter_less {p q : Nat → Bool} : ∀ (l : List Nat), (∀ x, p x = true → q x = true) → (∃ x ∈ l, q x = true ∧ p x = false) → (l.filter p).length < (l.filter q).length
  | [], _, ⟨x, h, _⟩ => by cases h
  | y :: l, hpq, hx => by
    have hle : ∀ l : List Nat, (l.filter p).length ≤ (l.filter q).length := by
      intro l
      induction l with
      | nil => simp
      | cons z l ih =>
        rw [List.filter_cons, List.filter_cons]
        cases hp : p z
        · cases q z <;> simp <;> omega
        · rw [hpq z hp]; simp; omega
    obtain ⟨x, hm, h1, h2⟩ := hx
    rw [List.filter_cons, List.filter_cons]
    rcases List.mem_cons.1 hm with rfl | hm
    · rw [h1, h2]
      have := hle l
      simp; omega
    · have ih := filter_less l hpq ⟨x, hm, h1, h2⟩
      cases hp : p y
      · cases q y <;> simp <;> omega
      · rw [hpq y hp]; simp; omega
theorem put_get (a : Act) (d : Nat) (v : Value) (h : d < a.tmps.size) : (a.put (some d) v).eval (.tmp d) = v := by
  simp [Act.put, Act.eval, h]
theorem put_ne (a : Act) (d s : Nat) (v : Value) (h : s ≠ d) : (a.put (some d) v).eval (.tmp s) = a.eval (.tmp s) := by
  simp only [Act.put, Act.eval, Array.getD_eq_getD_getElem?]
  rw [Array.getElem?_setIfInBounds_ne (Ne.symm h)]
theorem put_size (a : Act) (d : Option Nat) (v : Value) : (a.put d v).tmps.size = a.tmps.size := by
  cases d <;> simp [Act.put]
theorem put_defers (a : Act) (d : Option Nat) (v : Value) : (a.put d v).defers = a.defers := by
  cases d <;> simp [Act.put]
theorem wpAny_slots {L nt : Nat} {ins : List Nat} (hlay : layB md ops L nt ins = true) (V : Nat → Value → World → Prop) (R : World → World → Prop) (hst : ∀ s v w w', R w w' → V s v w → V s v w') (J : World → Prop) (hJ : ∀ w w', R w w' → J w → J w')
    (hs : stepsOk (StepOk P md ops Q nt ins V R J) (LastOk P ops Q L nt ins V J) L 0 ops.toList) :
    ∀ (fuel : Nat) (listed : Array Bool) (a : Act) (w : World), listed.size = L + 1 → listed.getD L false = false → ((List.range (L + 1)).filter fun i => !listed.getD i false).length ≤ fuel → a.tmps.size = nt → a.defers = [] → J w →
      (∀ s, ins.contains s = true → V s (a.eval (.tmp s)) w) → (∀ j d, j < L → listed.getD j false = true → dstB ops j d = true → V d (a.eval (.tmp d)) w) → wpAny P md ops Q fuel listed a w := by
  unfold layB at hlay
  rw [Bool.and_eq_true, beq_iff_eq, List.all_eq_true] at hlay
  obtain ⟨hsz, hall⟩ := hlay
  have hop : ∀ i o, ops[i]? = some o → i < L + 1 ∧ o.guard = none ∧ (∀ e ∈ o.after, Region.binds md e = true → e.on < i) ∧ (if i = L then ∀ j, j < L → dpdB md o j = true else ∃ d, o.dst = some d ∧ d < nt ∧ ins.contains d = false ∧ ∀ j, j < L → j ≠ i → dstB ops j d = false) := by
    intro i o ho
    have hi : i < L + 1 := by rw [← hsz]; exact (Array.getElem?_eq_some_iff.1 ho).1
    have h := hall i (List.mem_range.2 hi)
    rw [ho] at h
    simp only [Bool.and_eq_true] at h
    obtain ⟨⟨h1, h2⟩, h3⟩ := h
    refine ⟨hi, by simpa using h1, fun e he hb => ?_, ?_⟩
    · rw [Array.all_eq_true_iff_forall_mem] at h2
      have := h2 e he
      rw [hb] at this
      simpa using this
    · by_cases hiL : i = L
      · subst hiL
        rw [if_pos rfl]
        simp only [beq_self_eq_true, if_true, List.all_eq_true] at h3
        exact fun j hj => h3 j (List.mem_range.2 hj)
      · rw [if_neg hiL]
        rw [if_neg (by simpa using hiL)] at h3
        cases hd : o.dst with
        | none => rw [hd] at h3; simp at h3
        | some d =>
          rw [hd] at h3
          simp only [Bool.and_eq_true, decide_eq_true_eq, Bool.not_eq_true', List.all_eq_true, Bool.or_eq_true, beq_iff_eq] at h3
          exact ⟨d, rfl, h3.1.1, h3.1.2, fun j hj hne => (h3.2 j (List.mem_range.2 hj)).resolve_left hne⟩
  have hget : ∀ i o, ops[i]? = some o → if i = L then LastOk P ops Q L nt ins V J o else StepOk P md ops Q nt ins V R J o := by
    intro i o ho
    have := stepsOk_get ops.toList 0 i o hs (by simpa using ho)
    rwa [Nat.zero_add] at this
  intro fuel
  induction fuel with
  | zero =>
    intro listed a w hls hL hf
    have : L ∈ (List.range (L + 1)).filter fun i => !listed.getD i false := List.mem_filter.2 ⟨List.mem_range.2 (by omega), by rw [hL]; rfl⟩
    have := List.length_pos_of_mem this
    omega
  | succ fuel ih =>
    intro listed a w hls hL hf hsa hdf hJw hins hheld
    have hex : ∀ n i, i ≤ n → i ≤ L → listed.getD i false = false → ∃ j, j ∈ Region.ready md ops listed := by
      intro n
      induction n with
      | zero =>
        intro i hi hiL hlf
        have ho : ops[i]? = some ops[i] := Array.getElem?_eq_getElem (by omega)
        refine ⟨i, mem_ready.2 ⟨by rw [getD_tf (by omega)]; exact hlf, _, ho, fun e he hb => ?_⟩⟩
        have := (hop i _ ho).2.2.1 e he hb
        omega
      | succ n ihn =>
        intro i hi hiL hlf
        have ho : ops[i]? = some ops[i] := Array.getElem?_eq_getElem (by omega)
        by_cases hall2 : ∀ e ∈ ops[i].after, Region.binds md e = true → listed.getD e.on false = true
        · exact ⟨i, mem_ready.2 ⟨by rw [getD_tf (by omega)]; exact hlf, _, ho, hall2⟩⟩
        · simp only [Classical.not_forall] at hall2
          obtain ⟨e, he, hb, hn⟩ := hall2
          have hlt := (hop i _ ho).2.2.1 e he hb
          exact ihn e.on (by omega) (by omega) (by simpa using hn)
    refine ⟨fun h0 => ?_, fun i hi => ?_⟩
    · obtain ⟨j, hj⟩ := hex L L (Nat.le_refl _) (Nat.le_refl _) hL
      rw [h0] at hj
      cases hj
    · obtain ⟨hlt, o, ho, hdep⟩ := mem_ready.1 hi
      obtain ⟨hiL, hg, hbk, hlay2⟩ := hop i o ho
      have hun : listed.getD i false = false := by rw [← getD_tf (by omega)]; exact hlt
      refine wpOp_step ho (fun K' hK => ?_)
      rw [if_pos (by simp [Region.wanted, hg])]
      have hG := hget i o ho
      by_cases he : i = L
      · rw [if_pos he] at hG hlay2
        refine hG a w K' hsa hdf hJw hins (fun j d hj hd => ?_) (fun a' w' hq => hK a' w' ?_)
        · have h1 := hlay2 j hj
          unfold dpdB at h1
          rw [Array.any_eq_true'] at h1
          obtain ⟨e, he1, hb⟩ := h1
          rw [Bool.and_eq_true, beq_iff_eq] at hb
          have := hdep e he1 hb.1
          rw [hb.2] at this
          exact hheld j d hj this hd
        · refine wpAny_listed _ _ _ _ (fun j hj => ?_) hq
          by_cases hji : j = i
          · subst hji
            simp [Array.getD, hls, hiL]
          · rw [getD_set_ne true (Ne.symm hji)]
            have h1 := hlay2 j (by omega)
            unfold dpdB at h1
            rw [Array.any_eq_true'] at h1
            obtain ⟨e, he1, hb⟩ := h1
            rw [Bool.and_eq_true, beq_iff_eq] at hb
            have := hdep e he1 hb.1
            rw [hb.2] at this
            rw [getD_tf (by omega)]
            exact this
      · rw [if_neg he] at hG hlay2
        obtain ⟨d, hd, hdn, hdi, hdu⟩ := hlay2
        refine hG a w K' hsa hJw hins (fun j d' hj hd' => ?_) (fun v w' hR hV => hK _ _ ?_)
        · unfold dpdB at hj
          rw [Array.any_eq_true'] at hj
          obtain ⟨e, he1, hb⟩ := hj
          rw [Bool.and_eq_true, beq_iff_eq] at hb
          have h1 := hdep e he1 hb.1
          have h2 := hbk e he1 hb.1
          rw [hb.2] at h1 h2
          exact hheld j d' (by omega) h1 hd'
        · rw [hd]
          have hVd := hV d hd
          have hsd : d < a.tmps.size := by rw [hsa]; exact hdn
          refine ih (listed.setIfInBounds i true) (a.put (some d) v) w' (by simpa using hls) (by rw [getD_set_ne false he]; exact hL) ?_ (by rw [put_size]; exact hsa) (by rw [put_defers]; exact hdf) (hJ _ _ hR hJw) (fun s hs => ?_) (fun j d' hj hl hd' => ?_)
          · have : ((List.range (L + 1)).filter fun k => !(listed.setIfInBounds i true).getD k false).length < ((List.range (L + 1)).filter fun k => !listed.getD k false).length := by
              refine filter_less _ (fun k hk => ?_) ⟨i, List.mem_range.2 hiL, by rw [hun]; rfl, ?_⟩
              · by_cases hki : i = k
                · subst hki; rw [hun]; rfl
                · rwa [getD_set_ne false hki] at hk
              · simp [Array.getD, hls, hiL]
            omega
          · have hne : s ≠ d := fun e => by rw [e, hdi] at hs; cases hs
            rw [put_ne a d s v hne]
            exact hst _ _ _ _ hR (hins s hs)
          · by_cases hji : j = i
            · subst hji
              have : d' = d := by
                unfold dstB at hd'
                rw [ho] at hd'
                simp [hd] at hd'
                exact hd'.symm
              subst this
              rw [put_get a d' v hsd]
              exact hVd
            · have hne : d' ≠ d := fun e => by
                subst e
                rw [hdu j hj hji] at hd'
                cases hd'
              rw [put_ne a d d' v hne]
              rw [getD_set_ne false (Ne.symm hji)] at hl
              exact hst _ _ _ _ hR (hheld j d' hj hl hd')
theorem wp_region_slots {id : Nat} {a : Act} {w : World} {L nt : Nat} {ins : List Nat} (hm : P.follows .mixedOrders = true) (hlay : layB .any ops L nt ins = true) (V : Nat → Value → World → Prop) (R : World → World → Prop) (hst : ∀ s v w w', R w w' → V s v w → V s v w') (J : World → Prop) (hJ : ∀ w w', R w w' → J w → J w')
    (hs : stepsOk (StepOk P .any ops Q nt ins V R J) (LastOk P ops Q L nt ins V J) L 0 ops.toList) (hsa : a.tmps.size = nt) (hdf : a.defers = []) (hJw : J w.drew) (hins : ∀ s, ins.contains s = true → V s (a.eval (.tmp s)) w.drew) : (Code.region id ops true).wp P Q a w := by
  refine wp_region_any hm (wpAny_slots hlay V R hst J hJ hs _ _ _ _ ?_ ?_ ?_ hsa hdf hJw hins (fun j d hj hl => ?_))
  · unfold layB at hlay
    rw [Bool.and_eq_true, beq_iff_eq] at hlay
    simp [hlay.1]
  · simp [Array.getD]
  · have hsz : ops.size = L + 1 := by
      unfold layB at hlay
      rw [Bool.and_eq_true, beq_iff_eq] at hlay
      exact hlay.1
    rw [hsz]
    exact Nat.le_trans (List.length_filter_le _ _) (by simp)
  · simp [Array.getD] at hl
end
end Go.Proofs.YtponaoefpicfpaaGreatDoor
/- A region that draws its order, by one invariant of what is done, the slots and the world. -/
namespace Go.Proofs.YtponaoefpicfpaaGreatDoor
open Go.RowKit
section
variable {P : Program} {md : Region.Mode} {ops : Array Oper} {Q : Exit → Act → World → Prop}
/-- the lay-out: no guard, what is waited for comes earlier in the text, slots that are written are listed -/
def layI (md : Region.Mode) (ops : Array Oper) (L nt : Nat) (ds : List Nat) : Bool :=
  ops.size == L && ((List.range L).all fun i => match ops[i]? with
    | some o => o.guard.isNone && o.after.all (fun e => !Region.binds md e || decide (e.on < i)) && (match o.dst with
      | some d => decide (d < nt) && ds.contains d
      | none => true)
    | none => false)
/-- one step: operation i is done in some order -/
def StepI (P : Program) (md : Region.Mode) (Q : Exit → Act → World → Prop) (nt : Nat) (I : (Nat → Bool) → (Nat → Value) → World → Prop) (i : Nat) (o : Oper) : Prop :=
  ∀ (lst : Nat → Bool) (a : Act) (w : World) (K : Act → World → Prop), a.tmps.size = nt → a.defers = [] → lst i = false → (∀ j, dpdB md o j = true → lst j = true) → I lst (fun s => a.eval (.tmp s)) w →
    (∀ v w', I (fun j => lst j || j == i) (fun s => if o.dst = some s then v else a.eval (.tmp s)) w' → K (a.put o.dst v) w') → Oper.wp P o a w K Q
def stepsI (F : Nat → Oper → Prop) : Nat → List Oper → Prop
  | _, [] => True
  | i, o :: l => F i o ∧ stepsI F (i + 1) l
theorem stepsI_get {F : Nat → Oper → Prop} : ∀ (l : List Oper) (k i : Nat) (o : Oper), stepsI F k l → l[i]? = some o → F (k + i) o
  | [], _, _, _, _, h => by simp at h
  | x :: l, k, 0, o, h, e => by
    simp at e
    subst e
    exact h.1
  | x :: l, k, i + 1, o, h, e => by
    have := stepsI_get l (k + 1) i o h.2 (by simpa using e)
    rwa [show k + 1 + i = k + (i + 1) by omega] at this
/-- the frame behind the region -/
def putAll (a : Act) (f : Nat → Value) : List Nat → Act
  | [] => a
  | d :: l => putAll (a.put (some d) (f d)) f l
theorem act_ext {a b : Act} (h1 : a.tmps = b.tmps) (h2 : a.defers = b.defers) : a = b := by
  cases a; cases b
  simp at h1 h2
  subst h1; subst h2; rfl
theorem putAll_defers (f : Nat → Value) : ∀ (ds : List Nat) (a : Act), (putAll a f ds).defers = a.defers
  | [], _ => rfl
  | d :: l, a => by rw [putAll, putAll_defers f l, put_defers]
theorem putAll_get (f : Nat → Value) : ∀ (ds : List Nat) (a : Act) (s : Nat), s < a.tmps.size → (putAll a f ds).tmps[s]? = if s ∈ ds then some (f s) else a.tmps[s]?
  | [], a, s, _ => by simp [putAll]
  | d :: l, a, s, hs => by
    rw [putAll, putAll_get f l _ s (by rw [put_size]; exact hs)]
    by_cases h : s ∈ l
    · rw [if_pos h, if_pos (List.mem_cons_of_mem _ h)]
    · rw [if_neg h]
      by_cases e : s = d
      · subst e
        rw [if_pos (by simp)]
        simp [Act.put, hs]
      · rw [if_neg (by simp [e, h])]
        simp [Act.put, Ne.symm e]
theorem putAll_size (f : Nat → Value) : ∀ (ds : List Nat) (a : Act), (putAll a f ds).tmps.size = a.tmps.size
  | [], _ => rfl
  | d :: l, a => by rw [putAll, putAll_size f l, put_size]
theorem act_eq {a0 a : Act} (ds : List Nat) (hsz : a.tmps.size = a0.tmps.size) (hd : a.defers = a0.defers) (h : ∀ s, s ∉ ds → a.tmps[s]? = a0.tmps[s]?) : a = putAll a0 (fun s => a.eval (.tmp s)) ds := by
  refine act_ext ?_ (by rw [putAll_defers]; exact hd)
  apply Array.ext_getElem?
  intro s
  by_cases hs : s < a0.tmps.size
  · rw [putAll_get _ _ _ _ hs]
    by_cases c : s ∈ ds
    · rw [if_pos c]
      have hs' : s < a.tmps.size := by omega
      rw [Array.getElem?_eq_getElem hs']
      simp [Act.eval, hs']
    · rw [if_neg c, h s c]
  · rw [Array.getElem?_eq_none (by omega), Array.getElem?_eq_none (by rw [putAll_size]; omega)]
theorem wpAny_inv {L nt : Nat} {ds : List Nat} {a0 : Act} (hlay : layI md ops L nt ds = true) (I : (Nat → Bool) → (Nat → Value) → World → Prop) (hs : stepsI (StepI P md Q nt I) 0 ops.toList)
    (hcg : ∀ l l' f w, (∀ j, j < L → l j = l' j) → I l f w → I l' f w) (hQ : ∀ f w, I (fun j => decide (j < L)) f w → Q .normal (putAll a0 f ds) w) (hn0 : a0.tmps.size = nt) (hd0 : a0.defers = []) :
    ∀ (fuel : Nat) (listed : Array Bool) (a : Act) (w : World), listed.size = L → ((List.range L).filter fun i => !listed.getD i false).length ≤ fuel → a.tmps.size = nt → a.defers = [] → (∀ s, s ∉ ds → a.tmps[s]? = a0.tmps[s]?) →
      I (fun j => listed.getD j false) (fun s => a.eval (.tmp s)) w → wpAny P md ops Q fuel listed a w := by
  unfold layI at hlay
  rw [Bool.and_eq_true, beq_iff_eq, List.all_eq_true] at hlay
  obtain ⟨hsz, hall⟩ := hlay
  have hop : ∀ i o, ops[i]? = some o → i < L ∧ o.guard = none ∧ (∀ e ∈ o.after, Region.binds md e = true → e.on < i) ∧ (∀ d, o.dst = some d → d < nt ∧ d ∈ ds) := by
    intro i o ho
    have hi : i < L := by rw [← hsz]; exact (Array.getElem?_eq_some_iff.1 ho).1
    have h := hall i (List.mem_range.2 hi)
    rw [ho] at h
    simp only [Bool.and_eq_true] at h
    obtain ⟨⟨h1, h2⟩, h3⟩ := h
    refine ⟨hi, by simpa using h1, fun e he hb => ?_, fun d hd => ?_⟩
    · rw [Array.all_eq_true_iff_forall_mem] at h2
      have := h2 e he
      rw [hb] at this
      simpa using this
    · rw [hd] at h3
      simpa using h3
  have fin : ∀ (fuel : Nat) (listed : Array Bool) (a : Act) (w : World), listed.size = L → (∀ j, j < L → listed.getD j false = true) → a.tmps.size = nt → a.defers = [] → (∀ s, s ∉ ds → a.tmps[s]? = a0.tmps[s]?) → I (fun j => listed.getD j false) (fun s => a.eval (.tmp s)) w → wpAny P md ops Q fuel listed a w := by
    intro fuel listed a w hls hl hsa hda hun hI
    refine wpAny_listed fuel listed a w (fun j hj => ?_) ?_
    · rw [getD_tf (by omega)]; exact hl j (by omega)
    · have := hQ _ w (hcg _ (fun j => decide (j < L)) _ w (fun j hj => by rw [hl j hj]; simp [hj]) hI)
      rw [← act_eq ds (by omega) (by rw [hda, hd0]) hun] at this
      exact this
  intro fuel
  induction fuel with
  | zero =>
    intro listed a w hls hf hsa hda hun hI
    refine fin 0 listed a w hls (fun j hj => ?_) hsa hda hun hI
    cases h : listed.getD j false with
    | true => rfl
    | false =>
      have : j ∈ (List.range L).filter fun i => !listed.getD i false := List.mem_filter.2 ⟨List.mem_range.2 hj, by rw [h]; rfl⟩
      have := List.length_pos_of_mem this
      omega
  | succ fuel ih =>
    intro listed a w hls hf hsa hda hun hI
    by_cases hdone : ∀ j, j < L → listed.getD j false = true
    · exact fin _ listed a w hls hdone hsa hda hun hI
    have hex : ∀ n i, i ≤ n → i < L → listed.getD i false = false → ∃ j, j ∈ Region.ready md ops listed := by
      intro n
      induction n with
      | zero =>
        intro i hi hiL hlf
        have ho : ops[i]? = some ops[i] := Array.getElem?_eq_getElem (by omega)
        refine ⟨i, mem_ready.2 ⟨by rw [getD_tf (by omega)]; exact hlf, _, ho, fun e he hb => ?_⟩⟩
        have := (hop i _ ho).2.2.1 e he hb
        omega
      | succ n ihn =>
        intro i hi hiL hlf
        have ho : ops[i]? = some ops[i] := Array.getElem?_eq_getElem (by omega)
        by_cases hall2 : ∀ e ∈ ops[i].after, Region.binds md e = true → listed.getD e.on false = true
        · exact ⟨i, mem_ready.2 ⟨by rw [getD_tf (by omega)]; exact hlf, _, ho, hall2⟩⟩
        · simp only [Classical.not_forall] at hall2
          obtain ⟨e, he, hb, hn⟩ := hall2
          have hlt := (hop i _ ho).2.2.1 e he hb
          exact ihn e.on (by omega) (by omega) (by simpa using hn)
    refine ⟨fun h0 => ?_, fun i hi => ?_⟩
    · simp only [Classical.not_forall] at hdone
      obtain ⟨j, hj, hn⟩ := hdone
      obtain ⟨k, hk⟩ := hex j j (Nat.le_refl _) hj (by simpa using hn)
      rw [h0] at hk
      cases hk
    · obtain ⟨hlt, o, ho, hdep⟩ := mem_ready.1 hi
      obtain ⟨hiL, hg, hbk, hdst⟩ := hop i o ho
      have hlf : listed.getD i false = false := by rw [← getD_tf (by omega)]; exact hlt
      refine wpOp_step ho (fun K' hK => ?_)
      rw [if_pos (by simp [Region.wanted, hg])]
      have hst := stepsI_get ops.toList 0 i o hs (by simpa using ho)
      rw [Nat.zero_add] at hst
      refine hst (fun j => listed.getD j false) a w K' hsa hda hlf (fun j hj => ?_) hI (fun v w' hI' => hK _ _ ?_)
      · unfold dpdB at hj
        rw [Array.any_eq_true'] at hj
        obtain ⟨e, he1, hb⟩ := hj
        rw [Bool.and_eq_true, beq_iff_eq] at hb
        have := hdep e he1 hb.1
        rw [hb.2] at this
        exact this
      · refine ih (listed.setIfInBounds i true) (a.put o.dst v) w' (by simpa using hls) ?_ (by rw [put_size]; exact hsa) (by rw [put_defers]; exact hda) (fun s hs => ?_) ?_
        · have : ((List.range L).filter fun k => !(listed.setIfInBounds i true).getD k false).length < ((List.range L).filter fun k => !listed.getD k false).length := by
            refine filter_less _ (fun k hk => ?_) ⟨i, List.mem_range.2 hiL, by rw [hlf]; rfl, ?_⟩
            · by_cases hki : i = k
              · subst hki; rw [hlf]; rfl
              · rwa [getD_set_ne false hki] at hk
            · simp [Array.getD, hls, hiL]
          omega
        · cases hd : o.dst with
          | none => exact hun s hs
          | some d =>
            have hne : d ≠ s := fun e => hs (by rw [← e]; exact (hdst d hd).2)
            rw [← hun s hs]
            simp [Act.put, hne]
        · have e1 : (fun s => (a.put o.dst v).eval (.tmp s)) = fun s => if o.dst = some s then v else a.eval (.tmp s) := by
            funext s
            cases hd : o.dst with
            | none => simp [Act.put]
            | some d =>
              by_cases e : d = s
              · subst e
                rw [if_pos rfl, put_get a d v (by rw [hsa]; exact (hdst d hd).1)]
              · rw [if_neg (by simpa using e), put_ne a d s v (Ne.symm e)]
          rw [e1]
          refine hcg _ _ _ _ (fun j hj => ?_) hI'
          by_cases e : i = j
          · subst e
            simp [Array.getD, hls, hiL]
          · rw [getD_set_ne false e]
            have : (j == i) = false := by simpa using Ne.symm e
            rw [this, Bool.or_false]
theorem wp_region_inv {id : Nat} {a : Act} {w : World} {L nt : Nat} {ds : List Nat} (hm : P.follows .mixedOrders = true) (hlay : layI .any ops L nt ds = true) (I : (Nat → Bool) → (Nat → Value) → World → Prop) (hcg : ∀ l l' f w, (∀ j, j < L → l j = l' j) → I l f w → I l' f w)
    (hs : stepsI (StepI P .any Q nt I) 0 ops.toList) (hn0 : a.tmps.size = nt) (hd0 : a.defers = []) (h0 : I (fun _ => false) (fun s => a.eval (.tmp s)) w.drew) (hQ : ∀ f w, I (fun j => decide (j < L)) f w → Q .normal (putAll a f ds) w) : (Code.region id ops true).wp P Q a w := by
  have hsz : ops.size = L := by
    unfold layI at hlay
    rw [Bool.and_eq_true, beq_iff_eq] at hlay
    exact hlay.1
  refine wp_region_any hm (wpAny_inv hlay I hs hcg hQ hn0 hd0 _ _ _ _ ?_ ?_ hn0 hd0 (fun s _ => rfl) (hcg _ _ _ _ (fun j hj => ?_) h0))
  · simp [hsz]
  · rw [hsz]
    exact Nat.le_trans (List.length_filter_le _ _) (by simp)
  · simp [Array.getD]
end
end Go.Proofs.YtponaoefpicfpaaGreatDoor
/- An operation of a drawn region that calls a function. -/
namespace Go.Proofs.YtponaoefpicfpaaGreatDoor
open Go.RowKit
theorem wp_callF {Q : Exit → Act → World → Prop} {o : Oper} {a : Act} {w : World} {K : Act → World → Prop} (f : FuncId) (args : Array Operand) (ats : Array TypeId) (ho : o.op = .call { callee := .value (.func f), args := args, argTypes := ats }) (hE : Enters f) (vs : Array Value) (hvs : args.map a.eval = vs)
    (hc : Calls Tryz.prog f vs w fun e w' => ∃ v, e = .returned v ∧ K (a.put o.dst v) w') : Oper.wp Tryz.prog o a w K Q := by
  unfold Oper.wp execOp
  simp only [ho]
  have e1 : (do let d ← resolve a.eval { callee := .value (.func f), args := args, argTypes := ats } o.type; invoke d.target d.args).run Tryz.prog w = .ok (.enter f vs) w := by
    subst hvs
    have := hE (args.map a.eval) w
    simp only [resolve, Deferred.ofValue, Act.eval, Sem.run_bind, Sem.run_pure, Result.andThen_ok, invoke] at *
    simpa using this
  rw [e1]
  refine Calls.mono hc ?_
  rintro e w' ⟨v, rfl, hk⟩
  exact hk
end Go.Proofs.YtponaoefpicfpaaGreatDoor
