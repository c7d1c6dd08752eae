import Derived.Test.YtkkcfifnkcnceaaGreatHRJ
import Derived.Test.YtkkcfifnkcnceaaGreatHBase
/- A region that draws its order, by kinds of its slots, where what was there stays; guarded operations too; the frame behind it is told. -/
namespace Go.Proofs.YtkkcfifnkcnceaaGreat
open Go.RowKit
section
variable {P : Program} {md : Region.Mode} {ops : Array Oper} {Q : Exit → Act → World → Prop}
def layK (md : Region.Mode) (ops : Array Oper) (L nt : Nat) (ins ds : List Nat) : Bool :=
 ops.size == L && ((List.range L).all fun i => match ops[i]? with
  | some o => o.after.all (fun e => !Region.binds md e || decide (e.on < i)) && (match o.dst with
   | some d => decide (d < nt) && ds.contains d && !ins.contains d && (List.range L).all (fun j => j == i || !dstB ops j d)
   | none => true)
  | none => false) && ds.all fun d => (List.range L).any fun j => dstB ops j d
def StepK (P : Program) (md : Region.Mode) (ops : Array Oper) (Q : Exit → Act → World → Prop) (nt : Nat) (ins : List Nat) (V : Nat → Value → World → Prop) (w0 : World) (o : Oper) : Prop :=
 ∀ (a : Act) (w : World) (K : Act → World → Prop), a.tmps.size = nt → Keeps w0 w → (∀ s, ins.contains s = true → V s (a.eval (.tmp s)) w) → (∀ j d, depB md o j = true → dstB ops j d = true → V d (a.eval (.tmp d)) w) →
  (∀ v w', Keeps w w' → (∀ d, o.dst = some d → V d v w') → K (a.put o.dst v) w') → if Region.wanted o (yielded ops a.tmps) = true then Oper.wp P o a w K Q else K (a.put o.dst undef) w
theorem StepK.plain {nt : Nat} {ins : List Nat} {V : Nat → Value → World → Prop} {w0 : World} {o : Oper} (hg : o.guard = none)
  (h : ∀ (a : Act) (w : World) (K : Act → World → Prop), a.tmps.size = nt → Keeps w0 w → (∀ s, ins.contains s = true → V s (a.eval (.tmp s)) w) → (∀ j d, depB md o j = true → dstB ops j d = true → V d (a.eval (.tmp d)) w) →
   (∀ v w', Keeps w w' → (∀ d, o.dst = some d → V d v w') → K (a.put o.dst v) w') → Oper.wp P o a w K Q) : StepK P md ops Q nt ins V w0 o := fun a w K h1 h2 h3 h4 h5 => by
 rw [if_pos (by simp [Region.wanted, hg])]
 exact h a w K h1 h2 h3 h4 h5
def stepsK (F : Oper → Prop) : List Oper → Prop
 | [] => True
 | o :: l => F o ∧ stepsK F l
theorem stepsK_get {F : Oper → Prop} : ∀ (l : List Oper) (i : Nat) (o : Oper), stepsK F l → l[i]? = some o → F o
 | [], _, _, _, h => by simp at h
 | x :: l, 0, o, h, e => by
  simp at e
  subst e
  exact h.1
 | x :: l, i + 1, o, h, e => stepsK_get l i o h.2 (by simpa using e)
theorem wpAny_kinds {L nt : Nat} {ins ds : List Nat} {a0 : Act} {w0 : World} (hlay : layK md ops L nt ins ds = true) (V : Nat → Value → World → Prop) (hst : ∀ s v w w', Keeps w w' → V s v w → V s v w') (hs : stepsK (StepK P md ops Q nt ins V w0) ops.toList)
  (hQ : ∀ f w, Keeps w0 w → (∀ d, ds.contains d = true → V d (f d) w) → Q .normal (putAll a0 f ds) w) (hn0 : a0.tmps.size = nt) (hd0 : a0.defers = []) :
  ∀ (fuel : Nat) (listed : Array Bool) (a : Act) (w : World), listed.size = L → ((List.range L).filter fun i => !listed.getD i false).length ≤ fuel → a.tmps.size = nt → a.defers = [] → (∀ s, s ∉ ds → a.tmps[s]? = a0.tmps[s]?) →
   Keeps w0 w → (∀ s, ins.contains s = true → V s (a.eval (.tmp s)) w) → (∀ j d, listed.getD j false = true → dstB ops j d = true → V d (a.eval (.tmp d)) w) → wpAny P md ops Q fuel listed a w := by
 unfold layK at hlay
 rw [Bool.and_eq_true, Bool.and_eq_true, beq_iff_eq, List.all_eq_true, List.all_eq_true] at hlay
 obtain ⟨⟨hsz, hall⟩, hcov⟩ := hlay
 have hop : ∀ (i : Nat) (o : Oper), ops[i]? = some o → i < L ∧ (∀ e ∈ o.after, Region.binds md e = true → e.on < i) ∧ (∀ d, o.dst = some d → d < nt ∧ d ∈ ds ∧ ins.contains d = false ∧ ∀ j, j < L → j ≠ i → dstB ops j d = false) := by
  intro i o ho
  have hi : i < L := by rw [← hsz]; exact (Array.getElem?_eq_some_iff.1 ho).1
  have h := hall i (List.mem_range.2 hi)
  rw [ho] at h
  simp only [Bool.and_eq_true] at h
  obtain ⟨h2, h3⟩ := h
  refine ⟨hi, fun e he hb => ?_, fun d hd => ?_⟩
  ·rw [Array.all_eq_true_iff_forall_mem] at h2
   have := h2 e he
   rw [hb] at this
   simpa using this
  ·rw [hd] at h3
   simp only [Bool.and_eq_true, decide_eq_true_eq, Bool.not_eq_true', List.all_eq_true, Bool.or_eq_true, beq_iff_eq] at h3
   exact ⟨h3.1.1.1, by simpa using h3.1.1.2, h3.1.2, fun j hj hne => (h3.2 j (List.mem_range.2 hj)).resolve_left hne⟩
 have fin : ∀ (fuel : Nat) (listed : Array Bool) (a : Act) (w : World), listed.size = L → (∀ j, j < L → listed.getD j false = true) → a.tmps.size = nt → a.defers = [] → (∀ s, s ∉ ds → a.tmps[s]? = a0.tmps[s]?) → Keeps w0 w →
   (∀ j d, listed.getD j false = true → dstB ops j d = true → V d (a.eval (.tmp d)) w) → wpAny P md ops Q fuel listed a w := by
  intro fuel listed a w hls hl hsa hda hun hk hV
  refine wpAny_listed fuel listed a w (fun j hj => ?_) ?_
  ·rw [getD_tf (by omega)]; exact hl j (by omega)
  ·have := hQ (fun s => a.eval (.tmp s)) w hk (fun d hd => by
    have := hcov d (by simpa using hd)
    rw [List.any_eq_true] at this
    obtain ⟨j, hj, hdj⟩ := this
    exact hV j d (hl j (List.mem_range.1 hj)) hdj)
   rw [← act_eq ds (by omega) (by rw [hda, hd0]) hun] at this
   exact this
 intro fuel
 induction fuel with
 | zero =>
  intro listed a w hls hf hsa hda hun hk hin hV
  refine fin 0 listed a w hls (fun j hj => ?_) hsa hda hun hk hV
  cases h : listed.getD j false with
  | true => rfl
  | false =>
   have : j ∈ (List.range L).filter fun i => !listed.getD i false := List.mem_filter.2 ⟨List.mem_range.2 hj, by rw [h]; rfl⟩
   have := List.length_pos_of_mem this
   omega
 | succ fuel ih =>
  intro listed a w hls hf hsa hda hun hk hin hV
  by_cases hdone : ∀ j, j < L → listed.getD j false = true
  ·exact fin _ listed a w hls hdone hsa hda hun hk hV
  have hex : ∀ n i, i ≤ n → i < L → listed.getD i false = false → ∃ j, j ∈ Region.ready md ops listed := by
   intro n
   induction n with
   | zero =>
    intro i hi hiL hlf
    have ho : ops[i]? = some ops[i] := Array.getElem?_eq_getElem (by omega)
    refine ⟨i, mem_ready.2 ⟨by rw [getD_tf (by omega)]; exact hlf, _, ho, fun e he hb => ?_⟩⟩
    have := (hop i _ ho).2.1 e he hb
    omega
   | succ n ihn =>
    intro i hi hiL hlf
    have ho : ops[i]? = some ops[i] := Array.getElem?_eq_getElem (by omega)
    by_cases hall2 : ∀ e ∈ ops[i].after, Region.binds md e = true → listed.getD e.on false = true
    ·exact ⟨i, mem_ready.2 ⟨by rw [getD_tf (by omega)]; exact hlf, _, ho, hall2⟩⟩
    ·simp only [Classical.not_forall] at hall2
     obtain ⟨e, he, hb, hn⟩ := hall2
     have hlt := (hop i _ ho).2.1 e he hb
     exact ihn e.on (by omega) (by omega) (by simpa using hn)
  refine ⟨fun h0 => ?_, fun i hi => ?_⟩
  ·simp only [Classical.not_forall] at hdone
   obtain ⟨j, hj, hn⟩ := hdone
   obtain ⟨k, hk⟩ := hex j j (Nat.le_refl _) hj (by simpa using hn)
   rw [h0] at hk
   cases hk
  ·obtain ⟨hlt, o, ho, hdep⟩ := mem_ready.1 hi
   obtain ⟨hiL, hbk, hdst⟩ := hop i o ho
   have hlf : listed.getD i false = false := by rw [← getD_tf (by omega)]; exact hlt
   refine wpOp_step ho (fun K' hK => ?_)
   have hst1 := stepsK_get ops.toList i o hs (by simpa using ho)
   refine hst1 a w K' hsa hk hin (fun j d hj hd => ?_) (fun v w' hR hVd => hK _ _ ?_)
   ·unfold depB at hj
    rw [Array.any_eq_true'] at hj
    obtain ⟨e, he1, hb⟩ := hj
    rw [Bool.and_eq_true, beq_iff_eq] at hb
    have := hdep e he1 hb.1
    rw [hb.2] at this
    exact hV j d this hd
   ·refine ih (listed.setIfInBounds i true) (a.put o.dst v) w' (by simpa using hls) ?_ (by rw [put_size]; exact hsa) (by rw [put_defers]; exact hda) (fun s hs => ?_) (hk.trans hR) (fun s hs => ?_) (fun j d hl hd => ?_)
    ·have : ((List.range L).filter fun k => !(listed.setIfInBounds i true).getD k false).length < ((List.range L).filter fun k => !listed.getD k false).length := by
      refine filter_less _ (fun k hk => ?_) ⟨i, List.mem_range.2 hiL, by rw [hlf]; rfl, ?_⟩
      ·by_cases hki : i = k
       ·subst hki; rw [hlf]; rfl
       ·rwa [getD_set_ne false hki] at hk
      ·simp [Array.getD, hls, hiL]
     omega
    ·cases hd : o.dst with
     | none => exact hun s hs
     | some d =>
      have hne : d ≠ s := fun e => hs (by rw [← e]; exact (hdst d hd).2.1)
      rw [← hun s hs]
      simp [Act.put, hne]
    ·have hne : ∀ d, o.dst = some d → s ≠ d := fun d hd e => by
      have := (hdst d hd).2.2.1
      rw [← e, hs] at this
      cases this
     have e1 : (a.put o.dst v).eval (.tmp s) = a.eval (.tmp s) := by
      cases hd : o.dst with
      | none => simp [Act.put]
      | some d => exact put_ne a d s v (hne d hd)
     rw [e1]
     exact hst _ _ _ _ hR (hin s hs)
    ·by_cases hji : j = i
     ·subst hji
      have hdd : o.dst = some d := by
       unfold dstB at hd
       rw [ho] at hd
       simpa using hd
      rw [hdd, put_get a d v (by rw [hsa]; exact (hdst d hdd).1)]
      exact hVd d hdd
     ·rw [getD_set_ne false (Ne.symm hji)] at hl
      have hjL : j < L := by
       rcases Nat.lt_or_ge j L with h | h
       ·exact h
       ·simp [Array.getD, hls, Nat.not_lt.2 h] at hl
      have e1 : (a.put o.dst v).eval (.tmp d) = a.eval (.tmp d) := by
       cases hdo : o.dst with
       | none => simp [Act.put]
       | some d' =>
        refine put_ne a d' d v (fun e => ?_)
        have := (hdst d' hdo).2.2.2 j hjL hji
        rw [← e, hd] at this
        cases this
      rw [e1]
      exact hst _ _ _ _ hR (hV j d hl hd)
theorem wp_region_kinds {id : Nat} {a : Act} {w : World} {L nt : Nat} {ins ds : List Nat} (hm : P.follows .mixedOrders = true) (hlay : layK .any ops L nt ins ds = true) (V : Nat → Value → World → Prop) (hst : ∀ s v w w', Keeps w w' → V s v w → V s v w')
  (hs : stepsK (StepK P .any ops Q nt ins V w.drew) ops.toList) (hn0 : a.tmps.size = nt) (hd0 : a.defers = []) (hin : ∀ s, ins.contains s = true → V s (a.eval (.tmp s)) w.drew)
  (hQ : ∀ f w', Keeps w.drew w' → (∀ d, ds.contains d = true → V d (f d) w') → Q .normal (putAll a f ds) w') : (Code.region id ops true).wp P Q a w := by
 have hsz : ops.size = L := by
  unfold layK at hlay
  rw [Bool.and_eq_true, Bool.and_eq_true, beq_iff_eq] at hlay
  exact hlay.1.1
 refine wp_region_any hm (wpAny_kinds hlay V hst hs hQ hn0 hd0 _ _ _ _ ?_ ?_ hn0 hd0 (fun s _ => rfl) (Keeps.refl w.drew) hin (fun j d hl => ?_))
 ·simp [hsz]
 ·rw [hsz]
  exact Nat.le_trans (List.length_filter_le _ _) (by simp)
 ·simp [Array.getD] at hl
def layJ (md : Region.Mode) (ops : Array Oper) (L nt : Nat) (ins ds : List Nat) : Bool :=
 layI md ops (L + 1) nt ds && (match ops[L]? with
  | some o => (List.range L).all fun j => depB md o j
  | none => false) && ds.all (fun d => !ins.contains d && (List.range L).any fun j => dstB ops j d) && (List.range L).all (fun i => (List.range L).all fun j => j == i || (match (ops[i]?).bind (·.dst) with
  | some d => !dstB ops j d
  | none => true))
def LastI (P : Program) (Q : Exit → Act → World → Prop) (nt : Nat) (ds : List Nat) (V : Nat → Value → World → Prop) (w0 : World) (Fin : (Nat → Value) → World → Prop) (o : Oper) : Prop :=
 ∀ (a : Act) (w : World) (K : Act → World → Prop), a.tmps.size = nt → Keeps w0 w → (∀ d, ds.contains d = true → V d (a.eval (.tmp d)) w) →
  (∀ v w', Fin (fun s => if o.dst = some s then v else a.eval (.tmp s)) w' → K (a.put o.dst v) w') → Oper.wp P o a w K Q
def stepsL (F G : Oper → Prop) (L : Nat) : Nat → List Oper → Prop
 | _, [] => True
 | i, o :: l => (if i = L then G o else F o) ∧ stepsL F G L (i + 1) l
theorem stepsL_get {F G : Oper → Prop} {L : Nat} : ∀ (l : List Oper) (k i : Nat) (o : Oper), stepsL F G L k l → l[i]? = some o → if k + i = L then G o else F o
 | [], _, _, _, _, h => by simp at h
 | x :: l, k, 0, o, h, e => by
  simp at e
  subst e
  exact h.1
 | x :: l, k, i + 1, o, h, e => by
  have := stepsL_get l (k + 1) i o h.2 (by simpa using e)
  rwa [show k + 1 + i = k + (i + 1) by omega] at this
theorem stepsI_of {F : Nat → Oper → Prop} : ∀ (l : List Oper) (k : Nat), (∀ i o, l[i]? = some o → F (k + i) o) → stepsI F k l
 | [], _, _ => True.intro
 | x :: l, k, h => ⟨h 0 x rfl, stepsI_of l (k + 1) (fun i o ho => by
  have := h (i + 1) o (by simpa using ho)
  rwa [show k + (i + 1) = k + 1 + i by omega] at this)⟩
theorem wp_region_last {id : Nat} {a : Act} {w : World} {L nt : Nat} {ins ds : List Nat} (hm : P.follows .mixedOrders = true) (hlay : layJ .any ops L nt ins ds = true) (V : Nat → Value → World → Prop) (hst : ∀ s v w w', Keeps w w' → V s v w → V s v w') (Fin : (Nat → Value) → World → Prop)
  (hs : stepsL (StepK P .any ops Q nt ins V w.drew) (LastI P Q nt ds V w.drew Fin) L 0 ops.toList) (hn0 : a.tmps.size = nt) (hd0 : a.defers = []) (hin : ∀ s, ins.contains s = true → V s (a.eval (.tmp s)) w.drew)
  (hQ : ∀ f w', Fin f w' → Q .normal (putAll a f ds) w') : (Code.region id ops true).wp P Q a w := by
 unfold layJ at hlay
 rw [Bool.and_eq_true, Bool.and_eq_true, Bool.and_eq_true] at hlay
 obtain ⟨⟨⟨hI, hL⟩, hcov⟩, huni⟩ := hlay
 have hI2 := hI
 unfold layI at hI2
 rw [Bool.and_eq_true, beq_iff_eq, List.all_eq_true] at hI2
 obtain ⟨hsz, hall⟩ := hI2
 rw [List.all_eq_true] at hcov huni
 have hop : ∀ (i : Nat) (o : Oper), ops[i]? = some o → i < L + 1 ∧ o.guard = none ∧ (∀ d, o.dst = some d → d < nt ∧ d ∈ ds) := by
  intro i o ho
  have hi : i < L + 1 := by rw [← hsz]; exact (Array.getElem?_eq_some_iff.1 ho).1
  have h := hall i (List.mem_range.2 hi)
  rw [ho] at h
  simp only [Bool.and_eq_true] at h
  obtain ⟨⟨h1, h2⟩, h3⟩ := h
  refine ⟨hi, by simpa using h1, fun d hd => ?_⟩
  rw [hd] at h3
  simpa using h3
 have hdL : ∀ oL, ops[L]? = some oL → ∀ j, j < L → depB .any oL j = true := by
  intro oL ho j hj
  rw [ho] at hL
  rw [List.all_eq_true] at hL
  exact hL j (List.mem_range.2 hj)
 let I : (Nat → Bool) → (Nat → Value) → World → Prop := fun l f w' => (l L = false → Keeps w.drew w' ∧ (∀ s, ins.contains s = true → V s (f s) w') ∧ ∀ j d, j < L → l j = true → dstB ops j d = true → V d (f d) w') ∧ (l L = true → Fin f w' ∧ ∀ j, j < L → l j = true)
 refine wp_region_inv (L := L + 1) (nt := nt) (ds := ds) hm hI I (fun l l' f w' hl h => ?_) (stepsI_of _ _ (fun i o ho => ?_)) hn0 hd0 ?_ (fun f w' h => hQ f w' (h.2 (by simp)).1)
 ·refine ⟨fun e => ?_, fun e => ?_⟩
  ·obtain ⟨h1, h2, h3⟩ := h.1 (by rw [hl L (by omega)]; exact e)
   exact ⟨h1, h2, fun j d hj hlj hd => h3 j d hj (by rw [hl j (by omega)]; exact hlj) hd⟩
  ·obtain ⟨h1, h2⟩ := h.2 (by rw [hl L (by omega)]; exact e)
   exact ⟨h1, fun j hj => by rw [← hl j (by omega)]; exact h2 j hj⟩
 ·rw [Nat.zero_add]
  have ho' : ops[i]? = some o := by simpa using ho
  obtain ⟨hiL, hg, hdst⟩ := hop i o ho'
  have hstep := stepsL_get ops.toList 0 i o hs ho
  rw [Nat.zero_add] at hstep
  intro lst b w1 K hsa hda hli hdep hIw hK
  have hlL : lst L = false := by
   cases e : lst L with
   | false => rfl
   | true =>
    have h2 := (hIw.2 e).2
    by_cases hiL2 : i = L
    ·subst hiL2; rw [hli] at e; cases e
    ·rw [h2 i (by omega)] at hli; cases hli
  obtain ⟨hk, hinV, hV⟩ := hIw.1 hlL
  by_cases hiL2 : i = L
  ·rw [if_pos hiL2] at hstep
   subst hiL2
   have hallj : ∀ j, j < i → lst j = true := fun j hj => hdep j (hdL o ho' j hj)
   refine hstep b w1 K hsa hk (fun d hd => ?_) (fun v w' hF => hK v w' ⟨fun e => by simp at e, fun _ => ⟨hF, fun j hj => by show (lst j || j == i) = true; rw [hallj j hj]; rfl⟩⟩)
   have := hcov d (by simpa using hd)
   rw [Bool.and_eq_true, List.any_eq_true] at this
   obtain ⟨j, hj, hdj⟩ := this.2
   exact hV j d (List.mem_range.1 hj) (hallj j (List.mem_range.1 hj)) hdj
  ·rw [if_neg hiL2] at hstep
   have hi : i < L := by omega
   have hst1 := hstep b w1 K hsa hk hinV (fun j d hj hd => by
    have h2 := hdep j hj
    have hjL : j < L := by
     rcases Nat.lt_or_ge j L with h | h
     ·exact h
     ·exfalso
      by_cases e : j = L
      ·subst e; rw [h2] at hlL; cases hlL
      ·unfold dstB at hd
       rw [Array.getElem?_eq_none (by omega)] at hd
       simp at hd
    exact hV j d hjL h2 hd) (fun v w' hR hVd => hK v w' ⟨fun e => ⟨hk.trans hR, fun s hs => ?_, fun j d hj hlj hd => ?_⟩, fun e => ?_⟩)
   ·rw [if_pos (by simp [Region.wanted, hg])] at hst1
    exact hst1
   ·by_cases hd : o.dst = some s
    ·exfalso
     have := hcov s (hdst s hd).2
     rw [Bool.and_eq_true, hs] at this
     simp at this
    ·show V s (if o.dst = some s then v else b.eval (.tmp s)) w'
     rw [if_neg hd]
     exact hst _ _ _ _ hR (hinV s hs)
   ·by_cases hji : j = i
    ·subst hji
     have hdd : o.dst = some d := by
      unfold dstB at hd
      rw [ho'] at hd
      simpa using hd
     show V d (if o.dst = some d then v else b.eval (.tmp d)) w'
     rw [if_pos hdd]
     exact hVd d hdd
    ·have hlj2 : lst j = true := by
      have : (j == i) = false := by simpa using hji
      have h3 : (lst j || j == i) = true := hlj
      rw [this, Bool.or_false] at h3
      exact h3
     by_cases hd2 : o.dst = some d
     ·exfalso
      have := huni i (List.mem_range.2 hi)
      rw [List.all_eq_true] at this
      have := this j (List.mem_range.2 hj)
      rw [ho'] at this
      simp only [Option.bind_some, hd2, hd] at this
      simp [hji] at this
     ·show V d (if o.dst = some d then v else b.eval (.tmp d)) w'
      rw [if_neg hd2]
      exact hst _ _ _ _ hR (hV j d hj hlj2 hd)
   ·exfalso
    have : (L == i) = false := by simpa using Ne.symm hiL2
    have h3 : (lst L || L == i) = true := e
    rw [hlL, this] at h3
    simp at h3
 ·exact ⟨fun _ => ⟨Keeps.refl _, hin, fun j d hj e => by cases e⟩, fun e => by cases e⟩
def reachB (md : Region.Mode) (ops : Array Oper) : Nat → Nat → Nat → Bool
 | 0, _, _ => false
 | f + 1, i, j => match ops[i]? with
  | some o => depB md o j || (List.range i).any fun k => depB md o k && reachB md ops f k j
  | none => false
theorem reach_done {lst : Nat → Bool} (hcl : ∀ k o, ops[k]? = some o → lst k = true → ∀ j, depB md o j = true → lst j = true) : ∀ (f i j : Nat) (o : Oper), ops[i]? = some o → (∀ j, depB md o j = true → lst j = true) → reachB md ops f i j = true → lst j = true
 | 0, _, _, _, _, _, h => by cases h
 | f + 1, i, j, o, ho, hd, h => by
  unfold reachB at h
  rw [ho] at h
  simp only [Bool.or_eq_true, List.any_eq_true, Bool.and_eq_true] at h
  rcases h with h | ⟨k, _, h1, h2⟩
  ·exact hd j h
  ·have hk := hd k h1
   cases hok : ops[k]? with
   | none =>
    cases f with
    | zero => cases h2
    | succ f =>
     unfold reachB at h2
     rw [hok] at h2
     cases h2
   | some ok => exact reach_done hcl f k j ok hok (hcl k ok hok hk) h2
def layT (md : Region.Mode) (ops : Array Oper) (M L nt : Nat) (ins ds0 ds : List Nat) : Bool :=
 layI md ops L nt ds && decide (M < L) && ((List.range L).all fun i => decide (i < M) || (match ops[i]? with
  | some _ => (List.range i).all fun j => reachB md ops L i j
  | none => false)) && ds0.all (fun d => ds.contains d && !ins.contains d && (List.range M).any fun j => dstB ops j d) && (List.range M).all (fun i => (match (ops[i]?).bind (·.dst) with
  | some d => ds0.contains d && (List.range M).all fun j => j == i || !dstB ops j d
  | none => true))
def TailI (P : Program) (Q : Exit → Act → World → Prop) (nt : Nat) (Fin : Nat → (Nat → Value) → World → Prop) (i : Nat) (o : Oper) : Prop :=
 ∀ (a : Act) (w : World) (K : Act → World → Prop), a.tmps.size = nt → Fin (i - 1) (fun s => a.eval (.tmp s)) w → (∀ v w', Fin i (fun s => if o.dst = some s then v else a.eval (.tmp s)) w' → K (a.put o.dst v) w') → Oper.wp P o a w K Q
def HeadI (P : Program) (Q : Exit → Act → World → Prop) (nt : Nat) (ins ds0 : List Nat) (V : Nat → Value → World → Prop) (w0 : World) (Fin : Nat → (Nat → Value) → World → Prop) (M : Nat) (o : Oper) : Prop :=
 ∀ (a : Act) (w : World) (K : Act → World → Prop), a.tmps.size = nt → Keeps w0 w → (∀ s, ins.contains s = true → V s (a.eval (.tmp s)) w) → (∀ d, ds0.contains d = true → V d (a.eval (.tmp d)) w) → (∀ v w', Fin M (fun s => if o.dst = some s then v else a.eval (.tmp s)) w' → K (a.put o.dst v) w') → Oper.wp P o a w K Q
def stepsT (F : Oper → Prop) (H : Oper → Prop) (T : Nat → Oper → Prop) (M : Nat) : Nat → List Oper → Prop
 | _, [] => True
 | i, o :: l => (if i < M then F o else if i = M then H o else T i o) ∧ stepsT F H T M (i + 1) l
theorem stepsT_get {F H : Oper → Prop} {T : Nat → Oper → Prop} {M : Nat} : ∀ (l : List Oper) (k i : Nat) (o : Oper), stepsT F H T M k l → l[i]? = some o → if k + i < M then F o else if k + i = M then H o else T (k + i) o
 | [], _, _, _, _, h => by simp at h
 | x :: l, k, 0, o, h, e => by
  simp at e
  subst e
  exact h.1
 | x :: l, k, i + 1, o, h, e => by
  have := stepsT_get l (k + 1) i o h.2 (by simpa using e)
  rwa [show k + 1 + i = k + (i + 1) by omega] at this
theorem wp_region_tail {id : Nat} {a : Act} {w : World} {M L nt : Nat} {ins ds0 ds : List Nat} (hm : P.follows .mixedOrders = true) (hlay : layT .any ops M L nt ins ds0 ds = true) (V : Nat → Value → World → Prop) (hst : ∀ s v w w', Keeps w w' → V s v w → V s v w') (Fin : Nat → (Nat → Value) → World → Prop)
  (hs : stepsT (StepK P .any ops Q nt ins V w.drew) (HeadI P Q nt ins ds0 V w.drew Fin M) (TailI P Q nt Fin) M 0 ops.toList) (hn0 : a.tmps.size = nt) (hd0 : a.defers = []) (hin : ∀ s, ins.contains s = true → V s (a.eval (.tmp s)) w.drew)
  (hQ : ∀ f w', Fin (L - 1) f w' → Q .normal (putAll a f ds) w') : (Code.region id ops true).wp P Q a w := by
 unfold layT at hlay
 rw [Bool.and_eq_true, Bool.and_eq_true, Bool.and_eq_true, Bool.and_eq_true, decide_eq_true_eq] at hlay
 obtain ⟨⟨⟨⟨hI, hML⟩, hdep⟩, hcov⟩, huni⟩ := hlay
 have hI2 := hI
 unfold layI at hI2
 rw [Bool.and_eq_true, beq_iff_eq, List.all_eq_true] at hI2
 obtain ⟨hsz, hall⟩ := hI2
 rw [List.all_eq_true] at hdep hcov huni
 have hop : ∀ (i : Nat) (o : Oper), ops[i]? = some o → i < L ∧ o.guard = none := by
  intro i o ho
  have hi : i < L := by rw [← hsz]; exact (Array.getElem?_eq_some_iff.1 ho).1
  have h := hall i (List.mem_range.2 hi)
  rw [ho] at h
  simp only [Bool.and_eq_true] at h
  exact ⟨hi, by simpa using h.1.1⟩
 have hdT : ∀ (i : Nat) (o : Oper), ops[i]? = some o → M ≤ i → ∀ j, j < i → reachB .any ops L i j = true := by
  intro i o ho hi j hj
  have := hdep i (List.mem_range.2 (hop i o ho).1)
  rw [Bool.or_eq_true, decide_eq_true_eq] at this
  rcases this with h | h
  ·omega
  ·rw [ho, List.all_eq_true] at h
   exact h j (List.mem_range.2 hj)
 let I : (Nat → Bool) → (Nat → Value) → World → Prop := fun l f w' => (l M = false → Keeps w.drew w' ∧ (∀ s, ins.contains s = true → V s (f s) w') ∧ ∀ j d, j < M → l j = true → dstB ops j d = true → V d (f d) w') ∧
  (∀ m, M ≤ m → m < L → l m = true → (∀ j, j < m → l j = true) ∧ ((m + 1 < L → l (m + 1) = false) → Fin m f w')) ∧ ∀ (k : Nat) (o : Oper), ops[k]? = some o → l k = true → ∀ j, depB .any o j = true → l j = true
 have hlt : ∀ (i : Nat) (o : Oper), ops[i]? = some o → ∀ j, depB .any o j = true → j < L := by
  intro i o ho j hj
  have h := hall i (List.mem_range.2 (hop i o ho).1)
  rw [ho] at h
  simp only [Bool.and_eq_true] at h
  unfold depB at hj
  rw [Array.any_eq_true'] at hj
  obtain ⟨e, he, hb⟩ := hj
  rw [Bool.and_eq_true, beq_iff_eq] at hb
  have h2 := h.1.2
  rw [Array.all_eq_true_iff_forall_mem] at h2
  have := h2 e he
  rw [hb.1] at this
  simp at this
  have := (hop i o ho).1
  omega
 refine wp_region_inv (L := L) (nt := nt) (ds := ds) hm hI I (fun l l' f w' hl h => ?_) (stepsI_of _ _ (fun i o ho => ?_)) hn0 hd0 ?_ (fun f w' h => hQ f w' ((h.2.1 (L - 1) (by omega) (by omega) (by simp; omega)).2 (fun h => by omega)))
 ·refine ⟨fun e => ?_, fun m h1 h2 e => ?_, fun k o ho e j hj => ?_⟩
  ·obtain ⟨h1, h2, h3⟩ := h.1 (by rw [hl M hML]; exact e)
   exact ⟨h1, h2, fun j d hj hlj hd => h3 j d hj (by rw [hl j (by omega)]; exact hlj) hd⟩
  ·obtain ⟨g1, g2⟩ := h.2.1 m h1 h2 (by rw [hl m h2]; exact e)
   exact ⟨fun j hj => by rw [← hl j (by omega)]; exact g1 j hj, fun hn => g2 (fun h => by rw [hl (m + 1) h]; exact hn h)⟩
  ·rw [← hl j (hlt k o ho j hj)]
   exact h.2.2 k o ho (by rw [hl k (hop k o ho).1]; exact e) j hj
 ·rw [Nat.zero_add]
  have ho' : ops[i]? = some o := by simpa using ho
  obtain ⟨hiL, hg⟩ := hop i o ho'
  have hstep := stepsT_get ops.toList 0 i o hs ho
  rw [Nat.zero_add] at hstep
  intro lst b w1 K hsa hda hli hdepi hIw hK
  -- nothing behind i is done
  have hnone : ∀ m, M ≤ m → m < L → lst m = true → m < i := by
   intro m h1 h2 e
   rcases Nat.lt_or_ge m i with h | h
   ·exact h
   ·exfalso
    by_cases hmi : m = i
    ·subst hmi; rw [hli] at e; cases e
    ·rw [(hIw.2.1 m h1 h2 e).1 i (by omega)] at hli; cases hli
  have hclos : ∀ k o', ops[k]? = some o' → (lst k || k == i) = true → ∀ j, depB .any o' j = true → (lst j || j == i) = true := by
   intro k o' hk e j hj
   rw [Bool.or_eq_true] at e
   have : lst j = true := by
    rcases e with e | e
    ·exact hIw.2.2 k o' hk e j hj
    ·have : k = i := eq_of_beq e
     subst this
     rw [ho'] at hk
     cases hk
     exact hdepi j hj
   rw [this]; rfl
  by_cases hiM : i < M
  ·rw [if_pos hiM] at hstep
   have hlM : lst M = false := by
    cases e : lst M with
    | false => rfl
    | true => have := hnone M (Nat.le_refl _) hML e; omega
   obtain ⟨hk, hinV, hV⟩ := hIw.1 hlM
   have hst1 := hstep b w1 K hsa hk hinV (fun j d hj hd => by
    have h2 := hdepi j hj
    have hjM : j < M := by
     rcases Nat.lt_or_ge j M with h | h
     ·exact h
     ·exfalso
      have hjL : j < L := by
       rcases Nat.lt_or_ge j L with h' | h'
       ·exact h'
       ·exfalso
        unfold dstB at hd
        rw [Array.getElem?_eq_none (by omega)] at hd
        simp at hd
      have := hnone j h hjL h2
      omega
    exact hV j d hjM h2 hd) (fun v w' hR hVd => hK v w' ⟨fun e => ⟨hk.trans hR, fun s hs => ?_, fun j d hj hlj hd => ?_⟩, fun m h1 h2 e => ?_, hclos⟩)
   ·rw [if_pos (by simp [Region.wanted, hg])] at hst1
    exact hst1
   ·show V s (if o.dst = some s then v else b.eval (.tmp s)) w'
    by_cases hd : o.dst = some s
    ·exfalso
     have h1 := huni i (List.mem_range.2 hiM)
     rw [ho'] at h1
     simp only [Option.bind_some, hd, Bool.and_eq_true] at h1
     have h2 := hcov s (by simpa using h1.1)
     rw [Bool.and_eq_true, Bool.and_eq_true, hs] at h2
     simp at h2
    ·rw [if_neg hd]
     exact hst _ _ _ _ hR (hinV s hs)
   ·show V d (if o.dst = some d then v else b.eval (.tmp d)) w'
    by_cases hji : j = i
    ·subst hji
     have hdd : o.dst = some d := by
      unfold dstB at hd
      rw [ho'] at hd
      simpa using hd
     rw [if_pos hdd]
     exact hVd d hdd
    ·have hlj2 : lst j = true := by
      have : (j == i) = false := by simpa using hji
      have h3 : (lst j || j == i) = true := hlj
      rw [this, Bool.or_false] at h3
      exact h3
     by_cases hd2 : o.dst = some d
     ·exfalso
      have h1 := huni i (List.mem_range.2 hiM)
      rw [ho'] at h1
      simp only [Option.bind_some, hd2, Bool.and_eq_true, List.all_eq_true] at h1
      have := h1.2 j (List.mem_range.2 hj)
      simp [hd, hji] at this
     ·rw [if_neg hd2]
      exact hst _ _ _ _ hR (hV j d hj hlj2 hd)
   ·exfalso
    have h3 : (lst m || m == i) = true := e
    have : (m == i) = false := by simp; omega
    rw [this, Bool.or_false] at h3
    have := hnone m h1 h2 h3
    omega
  ·rw [if_neg hiM] at hstep
   have hallj : ∀ j, j < i → lst j = true := fun j hj => reach_done hIw.2.2 L i j o ho' hdepi (hdT i o ho' (by omega) j hj)
   have hout : ∀ v w', Fin i (fun s => if o.dst = some s then v else b.eval (.tmp s)) w' → I (fun j => lst j || j == i) (fun s => if o.dst = some s then v else b.eval (.tmp s)) w' := by
    intro v w' hF
    refine ⟨fun e => ?_, fun m h1 h2 e => ?_, hclos⟩
    ·exfalso
     have h3 : (lst M || M == i) = false := e
     by_cases hMi : M = i
     ·subst hMi; simp at h3
     ·rw [hallj M (by omega)] at h3; simp at h3
    ·have hmi : m ≤ i := by
      have h3 : (lst m || m == i) = true := e
      rw [Bool.or_eq_true] at h3
      rcases h3 with h3 | h3
      ·have := hnone m h1 h2 h3; omega
      ·have := eq_of_beq h3; omega
     refine ⟨fun j hj => by show (lst j || j == i) = true; rw [hallj j (by omega)]; rfl, fun hn => ?_⟩
     by_cases hmi2 : m = i
     ·subst hmi2; exact hF
     ·exfalso
      have h4 : (lst (m + 1) || m + 1 == i) = false := hn (by omega)
      by_cases e2 : m + 1 = i
      ·rw [e2] at h4; simp at h4
      ·rw [hallj (m + 1) (by omega)] at h4; simp at h4
   by_cases hiM2 : i = M
   ·rw [if_pos hiM2] at hstep
    subst hiM2
    obtain ⟨hk, hinV, hV⟩ := hIw.1 hli
    refine hstep b w1 K hsa hk hinV (fun d hd => ?_) (fun v w' hF => hK v w' (hout v w' hF))
    have := hcov d (by simpa using hd)
    rw [Bool.and_eq_true, List.any_eq_true] at this
    obtain ⟨j, hj, hdj⟩ := this.2
    exact hV j d (List.mem_range.1 hj) (hallj j (List.mem_range.1 hj)) hdj
   ·rw [if_neg hiM2] at hstep
    have hF := (hIw.2.1 (i - 1) (by omega) (by omega) (hallj (i - 1) (by omega))).2 (fun _ => by rw [show i - 1 + 1 = i by omega]; exact hli)
    exact hstep b w1 K hsa hF (fun v w' hF => hK v w' (hout v w' hF))
 ·exact ⟨fun _ => ⟨Keeps.refl _, hin, fun j d hj e => by cases e⟩, (fun m h1 h2 e => by cases e), (fun k o ho e => by cases e)⟩
end
end Go.Proofs.YtkkcfifnkcnceaaGreat
namespace Go.Proofs.YtkkcfifnkcnceaaGreat
open Go.RowKit
def idxOf {α : Type} (pr : α → Bool) : List α → Nat → Int
 | [], _ => -1
 | x :: l, k => if pr x then k else idxOf pr l (k + 1)
theorem idxOf_any {α : Type} (pr : α → Bool) (l : List α) : ∀ k, decide (idxOf pr l k ≥ 0) = l.any pr := by
 induction l with
 | nil => intro k; simp [idxOf]
 | cons x l ih =>
  intro k
  cases h : pr x
  ·have := ih (k + 1); simp only [idxOf, List.any_cons, h]; simpa using this
  ·simp only [idxOf, h, List.any_cons]; simp
theorem idxOf_drop {α : Type} (pr : α → Bool) (l : List α) (k : Nat) (h : k < l.length) : idxOf pr (l.drop k) k = if pr l[k] then (k : Int) else idxOf pr (l.drop (k + 1)) (k + 1) := by
 rw [List.drop_eq_getElem_cons h]; rfl
theorem idxOf_end {α : Type} (pr : α → Bool) (l : List α) (k : Nat) (h : l.length ≤ k) : idxOf pr (l.drop k) k = -1 := by
 rw [List.drop_eq_nil_of_le h]; rfl
def Enters (f : FuncId) : Prop := ∀ args w, (callFunc f args).run Tryz.prog w = .ok (.enter f args) w
def inR (x l h : Int) : Bool := decide (l ≤ x ∧ x ≤ h)
set_option maxHeartbeats 400000 in
theorem l01In_any (x l h : Int) (w : World) : Calls Tryz.prog 171 #[.int .i64 x, .int .i64 l, .int .i64 h] w fun e w' => e = .returned (.bool (inR x l h)) ∧ w = w' := by
 by_cases h1 : l ≤ x
 ·by_cases h2 : x ≤ h
  all_goals
   go_enter Tryz.func171, Tryz.ntmps171
   go_wp2
   go_ret
   exact ⟨ret_bool (by simp [inR, *]), rfl⟩
 ·go_enter Tryz.func171, Tryz.ntmps171
  go_wp2
  go_ret
  exact ⟨ret_bool (by simp [inR]; omega), rfl⟩
set_option maxHeartbeats 400000 in
theorem inRange_any (x l h : Int) (w : World) : Calls Tryz.prog 174 #[.int .i64 x, .int .i64 l, .int .i64 h] w fun e w' => e = .returned (.bool (inR x l h)) ∧ w = w' := by
 by_cases h1 : l ≤ x
 ·by_cases h2 : x ≤ h
  all_goals
   go_enter Tryz.func174, Tryz.ntmps174
   go_wp2
   go_ret
   exact ⟨ret_bool (by simp [inR, *]), rfl⟩
 ·go_enter Tryz.func174, Tryz.ntmps174
  go_wp2
  go_ret
  exact ⟨ret_bool (by simp [inR]; omega), rfl⟩
set_option maxHeartbeats 400000 in
theorem l02Parts_any (k : Int) (w : World) :
  Calls Tryz.prog 106 #[.int .i64 k] w fun e w' => e = .returned (.int .i64 (partsOf k)) ∧ w = w' := by
 go_enter Tryz.func106, Tryz.ntmps106
 go_wp2
 all_goals go_ret
 all_goals refine ⟨ret_int ?_, rfl⟩
 all_goals (simp_all [partsOf])
set_option maxHeartbeats 400000 in
theorem partsOf_any (k : Int) (w : World) :
  Calls Tryz.prog 180 #[.int .i64 k] w fun e w' => e = .returned (.int .i64 (partsOf k)) ∧ w = w' := by
 go_enter Tryz.func180, Tryz.ntmps180
 go_wp2
 all_goals go_ret
 all_goals refine ⟨ret_int ?_, rfl⟩
 all_goals (simp_all [partsOf])
set_option maxHeartbeats 400000 in
theorem l02Part_any (a : List Nd) (v : Value) (i : Int) (w : World) (hv : Nds w v a) (h0 : 0 ≤ i) (hi : i ≤ a.length) :
  Calls Tryz.prog 133 #[v, .int .i64 i] w fun e w' => e = .returned (.int .i64 (skipInt 1 a i.toNat)) ∧ w = w' := by
 obtain ⟨i, rfl⟩ := Int.eq_ofNat_of_zero_le h0
 rw [Int.toNat_natCast]
 obtain ⟨p, cap, rfl, hle, hmx, hr, hlen⟩ := hv
 unfold maxLen at hmx
 go_enter Tryz.func133, Tryz.ntmps133
 go_wp2
 go_loop [1, 4, 5] (fun i' r o => ∃ k op : Nat, k ≤ a.length ∧ op ≤ 1 + k ∧ skipInt 1 a i = skipInt op a k ∧ i' = .int .i64 k ∧ o = .int .i64 op ∧ r = .int .i64 0) (fun i _ _ => a.length - (intOf i).toNat)
 case atStart => exact ⟨i, 1, by omega, by omega, rfl, rfl, rfl, rfl⟩
 case round =>
  obtain ⟨k, op, hk, hop, hs, rfl, rfl, rfl⟩ := hrel
  have Hs := hid hs; clear hs
  by_cases h0 : 0 < op
  ·by_cases hlt : k < a.length
   ·obtain ⟨b, off, rfl, h1, h2⟩ := hr.nd k hlt
    have hp := partsOf_le a[k].k
    clear hr h2
    go_wp2_with (go_at_call 106; refine (l02Parts_any _ _).mono ?_; rintro e w' ⟨rfl, rfl⟩)
    go_round
    case rel => exact ⟨k + 1, op - 1 + partsOf a[k].k, by omega, by omega, by rw [Hs.out]; obtain ⟨q, rfl⟩ : ∃ q, op = q + 1 := ⟨op - 1, by omega⟩; exact skip_step q a k hlt, by go_num, by go_num, rfl⟩
    case measure => simp [intOf]; omega
   ·go_wp2
    go_ret
    refine ⟨ret_int ?_, rfl⟩
    obtain ⟨q, rfl⟩ : ∃ q, op = q + 1 := ⟨op - 1, by omega⟩
    rw [Hs.out, skip_end _ _ _ (by omega)]
  ·go_wp2
   go_ret
   refine ⟨ret_int ?_, rfl⟩
   obtain rfl : op = 0 := by omega
   rw [Hs.out, skip_zero _ _ hk]
set_option maxHeartbeats 400000 in
theorem partEnd_any (a : List Nd) (v : Value) (i : Int) (w : World) (hv : Nds w v a) (h0 : 0 ≤ i) (hi : i ≤ a.length) :
  Calls Tryz.prog 138 #[v, .int .i64 i] w fun e w' => e = .returned (.int .i64 (skipInt 1 a i.toNat)) ∧ w = w' := by
 obtain ⟨i, rfl⟩ := Int.eq_ofNat_of_zero_le h0
 rw [Int.toNat_natCast]
 obtain ⟨p, cap, rfl, hle, hmx, hr, hlen⟩ := hv
 unfold maxLen at hmx
 go_enter Tryz.func138, Tryz.ntmps138
 go_wp2
 go_loop [1, 4, 5] (fun i' r o => ∃ k op : Nat, k ≤ a.length ∧ op ≤ 1 + k ∧ skipInt 1 a i = skipInt op a k ∧ i' = .int .i64 k ∧ o = .int .i64 op ∧ r = .int .i64 0) (fun i _ _ => a.length - (intOf i).toNat)
 case atStart => exact ⟨i, 1, by omega, by omega, rfl, rfl, rfl, rfl⟩
 case round =>
  obtain ⟨k, op, hk, hop, hs, rfl, rfl, rfl⟩ := hrel
  have Hs := hid hs; clear hs
  by_cases h0 : 0 < op
  ·by_cases hlt : k < a.length
   ·obtain ⟨b, off, rfl, h1, h2⟩ := hr.nd k hlt
    have hp := partsOf_le a[k].k
    clear hr h2
    go_wp2_with (go_at_call 180; refine (partsOf_any _ _).mono ?_; rintro e w' ⟨rfl, rfl⟩)
    go_round
    case rel => exact ⟨k + 1, op - 1 + partsOf a[k].k, by omega, by omega, by rw [Hs.out]; obtain ⟨q, rfl⟩ : ∃ q, op = q + 1 := ⟨op - 1, by omega⟩; exact skip_step q a k hlt, by go_num, by go_num, rfl⟩
    case measure => simp [intOf]; omega
   ·go_wp2
    go_ret
    refine ⟨ret_int ?_, rfl⟩
    obtain ⟨q, rfl⟩ : ∃ q, op = q + 1 := ⟨op - 1, by omega⟩
    rw [Hs.out, skip_end _ _ _ (by omega)]
  ·go_wp2
   go_ret
   refine ⟨ret_int ?_, rfl⟩
   obtain rfl : op = 0 := by omega
   rw [Hs.out, skip_zero _ _ hk]
end Go.Proofs.YtkkcfifnkcnceaaGreat
namespace Go.Proofs.YtkkcfifnkcnceaaGreat
open Go.RowKit
theorem wp_callF {Q : Exit → Act → World → Prop} {o : Oper} {a : Act} {w : World} {K : Act → World → Prop} (f : FuncId) (args : Array Operand) (ats : Array TypeId) (ho : o.op = .call { callee := .value (.func f), args := args, argTypes := ats }) (hE : Enters f) (vs : Array Value) (hvs : args.map a.eval = vs)
  (hc : Calls Tryz.prog f vs w fun e w' => ∃ v, e = .returned v ∧ K (a.put o.dst v) w') : Oper.wp Tryz.prog o a w K Q := by
 unfold Oper.wp execOp
 simp only [ho]
 have e1 : (do let d ← resolve a.eval { callee := .value (.func f), args := args, argTypes := ats } o.type; invoke d.target d.args).run Tryz.prog w = .ok (.enter f vs) w := by
  subst hvs
  have := hE (args.map a.eval) w
  simp only [resolve, Deferred.ofValue, Act.eval, Sem.run_bind, Sem.run_pure, Result.andThen_ok, invoke] at *
  simpa using this
 rw [e1]
 refine Calls.mono hc ?_
 rintro e w' ⟨v, rfl, hk⟩
 exact hk
end Go.Proofs.YtkkcfifnkcnceaaGreat
