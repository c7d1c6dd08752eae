/- Logics in order: what survives in a logic survives in those below it. No program in sight. -/
import Derived.Test.YtkkcfifnkcnceaaGreatHMV
import Derived.Test.YtkkcfifnkcnceaaGreatHNH
import Derived.Test.YtkkcfifnkcnceaaGreatHBase
import Derived.Deep.RegionHeld3
namespace Go.Proofs.YtkkcfifnkcnceaaGreat
open Go.RowKit
theorem alw_at {L : Nat} {E : List Fm} {m : Nat} (h : alwB L E m = true) (hL : L = 2 ∨ L = 4 ∨ L = 6) : ∀ i ∈ mods E, (!demB E i m || meeB E i m) = true := by
 unfold alwB at h
 rw [decide_eq_true hL] at h
 exact List.all_eq_true.1 h
theorem pas_at {L : Nat} {E : List Fm} {f t : Nat} : pasB L E f t = true ↔ ∀ i ∈ mods E, pasQ L E f t i = true := List.all_eq_true
theorem idx_low (p : Nat → Bool) (N : Nat) : idxOf p (List.range N) 0 < 0 ↔ ∀ m, m < N → p m = false := by
 have key : ∀ d k, k ≤ N → d = N - k → (idxOf p ((List.range N).drop k) k < 0 ↔ ∀ m, k ≤ m → m < N → p m = false) := by
  intro d
  induction d with
  | zero =>
   intro k hk hd
   obtain rfl : k = N := by omega
   rw [rng_end]
   exact ⟨fun _ m h1 h2 => by omega, fun _ => by decide⟩
  | succ d ih =>
   intro k hk hd
   rw [rng_drop p N k (by omega)]
   by_cases hp : p k = true
   ·rw [if_pos hp]
    refine ⟨fun h => by omega, fun h => ?_⟩
    rw [h k (by omega) (by omega)] at hp
    cases hp
   ·rw [if_neg hp, ih (k + 1) (by omega) (by omega)]
    rw [Bool.not_eq_true] at hp
    refine ⟨fun h m h1 h2 => ?_, fun h m h1 h2 => h m (by omega) h2⟩
    by_cases e : m = k
    ·subst e; exact hp
    ·exact h m (by omega) h2
 have := key N 0 (by omega) (by omega)
 simpa using this
theorem thm_iff (L : Nat) (E : List Fm) (N : Nat) (A B : List Fm) : thmB L E N A B = true ↔ ∀ m, m < N → liveB L E N m = true → refB E A B m = false := by
 unfold thmB fstI
 rw [decide_eq_true_eq, idx_low]
 refine ⟨fun h m hm hl => ?_, fun h m hm => ?_⟩
 ·have := h m hm
  rw [hl] at this
  exact this
 ·cases hl : liveB L E N m
  ·rfl
  ·exact h m hm hl
end Go.Proofs.YtkkcfifnkcnceaaGreat
namespace Go.Proofs.YtkkcfifnkcnceaaGreat
open Go.RowKit
theorem idx_at (E : List Fm) (t : Fm) (h : t ∈ E) : ∃ hj : E.idxOf t < E.length, E[E.idxOf t] = t := by
 have hj := (idx_el E t h 0).2
 exact ⟨hj, List.getElem_idxOf hj⟩
theorem idx_first (E : List Fm) (t : Fm) : ∀ i, i < E.idxOf t → ∀ h : i < E.length, E[i] ≠ t := by
 induction E with
 | nil => intro i _ h; simp at h
 | cons a E ih =>
  intro i hi h
  by_cases ha : a = t
  ·subst ha; simp at hi
  ·have he : List.idxOf t (a :: E) = List.idxOf t E + 1 := by rw [List.idxOf_cons, show (a == t) = false by simp [ha]]; rfl
   rw [he] at hi
   cases i with
   | zero => simpa using ha
   | succ i => simpa using ih i (by omega) (by simpa using h)
theorem tx_cmp {ss : List ByteArray} {E : List Fm} (hT : Txts ss E) (hw : ∀ t ∈ E, t.wf) {t : Fm} (ht : t.wf) {s : ByteArray} (hs : bts s = t.body) (i : Nat) (hi : i < ss.length) (hi' : i < E.length) :
  (ss[i].toList == s.toList) = decide (E[i] = t) := by
 have h1 : bts ss[i] = E[i].body := by
  have := congrArg (fun l => l[i]?) hT
  simpa [List.getElem?_eq_getElem hi, List.getElem?_eq_getElem hi'] using this
 rw [ByteArray.toList_eq, ByteArray.toList_eq, Bool.eq_iff_iff, beq_iff_eq, decide_eq_true_eq]
 show bts ss[i] = bts s ↔ _
 rw [h1, hs]
 exact ⟨fun e => body_inj (hw _ (List.getElem_mem hi')) ht e, fun e => by rw [e]⟩
set_option maxRecDepth 20000 in
set_option maxHeartbeats 4000000 in
theorem l12True_el (E : List Fm) (ss : List ByteArray) (hT : Txts ss E) (hw : ∀ t ∈ E, t.wf) (h8 : E.length ≤ 8) (m : Nat) (hm : m < 256) (t : Fm) (hwt : t.wf) (hl : t.enc.length ≤ 100000000) (hk : t.kind = 0 ∨ t.kind = 5 ∨ t.kind = 6) (ht : t ∈ E) (v : Value) (w : World) (r : Nat) (pv : Value)
  (hv : Nds w v t.enc) (hc1 : w.cell? ⟨r, 1, none⟩ = some pv) (hp : Strs w pv ss) :
  Calls Tryz.prog 120 #[.pointer (some ⟨r, 0, none⟩), .int .i64 m, v] w fun e w' => e = .returned (.bool (m.testBit (E.idxOf t))) ∧ Keeps w w' := by
 have HTX := hid (l02TextA t hwt hl v w hv)
 obtain ⟨b, off, n, cap, rfl, h0, h1, h2, h3, hc, -⟩ := hv.root
 obtain ⟨hj, hjt⟩ := idx_at E t ht
 have HF := hid (idx_first E t)
 have hlen : ss.length = E.length := hT.length
 have HC := hid (fun s (hs : bts s = t.body) i hi hi' => tx_cmp hT hw hwt hs i hi hi')
 have HB := hid (fun wz => l01BitB_any m (E.idxOf t) wz hm (by omega))
 have HJT := hid hjt
 have hp0 := hp
 obtain ⟨pp, pc, rfl, hpl, hpx, _⟩ := hp.shape
 unfold maxLen at h2 hpx
 have HL := hid hlen
 clear hv hT hw hjt ht hwt
 generalize E.idxOf t = j at *
 have hjs : j < ss.length := by rw [hlen]; exact hj
 have HJ := hid hj
 clear hlen
 rcases hk with hk | hk | hk
 all_goals
  rw [hk] at hc
  go_enter Tryz.func120, Tryz.ntmps120
  go_wp2_with fail
  refine HTX.out.mono ?_; rintro e w2 ⟨s, rfl, hs, k2⟩
  have c1 := k2.cell hc1
  have hp2 := hp0.keeps k2
  have HCS := hid (HC.out s hs)
  clear hs
  go_wp2_with fail
  go_loopw [6, 8] (fun o i' wr => ∃ i : Nat, i ≤ j ∧ i' = .int .i64 i ∧ o = .bool false ∧ w2 = wr) (fun _ i' _ => j + 1 - (intOf i').toNat)
  case atStart => exact ⟨0, by omega, rfl, rfl, rfl⟩
  case round =>
   obtain ⟨i, hi, rfl, rfl, rfl⟩ := hrel
   have his : i < ss.length := by omega
   have his' : (i : Int) < ss.length := by omega
   obtain ⟨b1, o1, rfl, e1⟩ := hp2.get i his
   have hcmp := HCS.out i his (by have := HJ.out; omega)
   rcases Nat.lt_or_ge i j with hij | hij
   ·rw [decide_eq_false (HF.out i hij _)] at hcmp
    go_wp2_with fail
    go_roundw
    case rel => exact ⟨i + 1, by omega, by go_num, rfl, by trivial⟩
    case measure => simp [intOf]; omega
   ·obtain rfl : i = j := by omega
    rw [decide_eq_true HJT.out] at hcmp
    go_wp2_with fail
    refine (HB.out _).mono ?_; rintro e w3 ⟨rfl, rfl⟩
    go_wp2_with fail
    go_ret
    exact ⟨rfl, k2⟩
end Go.Proofs.YtkkcfifnkcnceaaGreat
namespace Go.Proofs.YtkkcfifnkcnceaaGreat
open Go.RowKit
section
variable {P : Program} {ops : Array Oper} {Q : Exit → Act → World → Prop} {md : Region.Mode} {S : World → Prop} {L : Nat}
def waitsL (md : Region.Mode) (ops : Array Oper) (L i : Nat) : Bool :=
 match ops[L]? with
 | some o => o.after.any fun e => Region.binds md e && e.on == i
 | none => false
def wpAnyL (P : Program) (md : Region.Mode) (ops : Array Oper) (Q : Exit → Act → World → Prop) (S : World → Prop) (L : Nat) : Nat → Array Bool → Act → World → Prop
 | 0, listed, a, w => Region.ready md ops listed = [] ∧ Q .normal a w
 | fuel + 1, listed, a, w =>
  (Region.ready md ops listed = [] → Q .normal a w) ∧
  ∀ i ∈ Region.ready md ops listed, wpOp P ops Q i (fun a' w' => ((listed.setIfInBounds i true).getD L false = true ∨ S w') ∧ wpAnyL P md ops Q S L fuel (listed.setIfInBounds i true) a' w') a w
theorem wpAny_of_L : ∀ (fuel : Nat) (listed : Array Bool) (a : Act) (w : World), wpAnyL P md ops Q S L fuel listed a w → wpAny P md ops Q fuel listed a w
 | 0, _, _, _, h => h
 | fuel + 1, _, _, _, h => ⟨h.1, fun i hi => wpOp_mono (fun a' w' h' => wpAny_of_L fuel _ a' w' h'.2) (h.2 i hi)⟩
theorem set_getL {listed : Array Bool} {i L : Nat} (h : i ≠ L) : (listed.setIfInBounds i true).getD L false = listed.getD L false := by
 rw [Array.getD_eq_getD_getElem?, Array.getD_eq_getD_getElem?, Array.getElem?_setIfInBounds_ne h]
theorem waitsL_ready {listed : Array Bool} {i : Nat} (hw : waitsL md ops L i = true) (hi : listed.getD i false = false) : L ∉ Region.ready md ops listed := by
 intro h
 obtain ⟨_, oL, hoL, hall⟩ := mem_ready.1 h
 unfold waitsL at hw
 rw [hoL] at hw
 obtain ⟨e, he, hb⟩ := Array.any_eq_true'.1 hw
 rw [Bool.and_eq_true, beq_iff_eq] at hb
 have h1 := hall e he hb.1
 rw [hb.2] at h1
 rcases Nat.lt_or_ge i listed.size with h' | h'
 ·simp [h'] at hi h1; rw [hi] at h1; cases h1
 ·simp [Array.getElem?_eq_none h'] at h1
theorem wpAnyL_first {i : Nat} {oi : Oper} {v : Value} (hi : ops[i]? = some oi) (hsel : ∀ (j : Nat) (o : Oper) cs b, ops[j]? = some o → o.op ≠ .select cs b) (hiL : i ≠ L)
  (hQ : ∀ c a w, Q (.panic c) (a.put oi.dst v) w → Q (.panic c) a w) (S' : World → Prop) (hmode : waitsL md ops L i = true ∧ S' = S ∨ S' = fun _ => True) :
  ∀ (fuel : Nat) (listed : Array Bool) (a : Act) (w : World),
   (∀ j oj, ops[j]? = some oj → j ≠ i → listed.getD j true = false → (∀ e ∈ oj.after, Region.binds md e = true → e.on ≠ i) → oi.apart ops oj = true) →
   i ∈ Region.ready md ops listed → YieldsIf P ops S' oi v a → (listed.getD L false = true ∨ S w) → (waitsL md ops L i = true ∧ S' = S → listed.getD L false = false ∧ S w) →
   wpAnyL P md ops Q S L fuel (listed.setIfInBounds i true) (a.put oi.dst v) w → wpAnyL P md ops Q S L (fuel + 1) listed a w := by
 intro fuel
 have hS' : ∀ (listed : Array Bool) (w : World), (waitsL md ops L i = true ∧ S' = S → listed.getD L false = false ∧ S w) → S' w := fun listed w h2 => by
  rcases hmode with hm | hm
  ·rw [hm.2]; exact (h2 hm).2
  ·rw [hm]; exact True.intro
 induction fuel with
 | zero =>
  intro listed a w _ hr hy hS h2 H
  refine ⟨fun h => (by rw [h] at hr; cases hr), fun j hj => ?_⟩
  by_cases hji : j = i
  ·subst hji; exact hy.wpOp hi (hS' _ _ h2) ⟨by rw [set_getL hiL]; exact hS, H⟩
  ·have := ready_mono hj hji
   rw [H.1] at this
   cases this
 | succ fuel ih =>
  intro listed a w hfree hr hy hS h2 H
  refine ⟨fun h => (by rw [h] at hr; cases hr), fun j hj => ?_⟩
  by_cases hji : j = i
  ·subst hji; exact hy.wpOp hi (hS' _ _ h2) ⟨by rw [set_getL hiL]; exact hS, H⟩
  ·have h1 := H.2 j (ready_mono hj hji)
   obtain ⟨hjun, oj, hoj, hall⟩ := mem_ready.1 hj
   have hin : listed.getD i false = false := by
    have h0 := (mem_ready.1 hr).1
    rcases Nat.lt_or_ge i listed.size with h' | h'
    ·simp [h'] at h0 ⊢; exact h0
    ·simp [Array.getElem?_eq_none h'] at h0 ⊢
   have hnot : ∀ e ∈ oj.after, Region.binds md e = true → e.on ≠ i := fun e he hb heq => by
    have h1 := hall e he hb
    have h0 := (mem_ready.1 hr).1
    rw [heq] at h1
    rcases Nat.lt_or_ge i listed.size with h' | h'
    ·simp [h'] at h0 h1; rw [h0] at h1; cases h1
    ·simp [Array.getElem?_eq_none h'] at h1
   have h3 := wpOp_putIf hoj (hfree j oj hoj hji hjun hnot) (fun cs b => hsel i oi cs b hi) (fun cs b => hsel j oj cs b hoj) hQ hy h1
   have hfree' : ∀ k ok, ops[k]? = some ok → k ≠ i → (listed.setIfInBounds j true).getD k true = false →
     (∀ e ∈ ok.after, Region.binds md e = true → e.on ≠ i) → oi.apart ops ok = true := fun k ok hk hki hun hno => by
    refine hfree k ok hk hki ?_ hno
    by_cases hjk : j = k
    ·subst hjk; exact hjun
    ·rw [getD_set_ne true hjk] at hun; exact hun
   have hcomm : (listed.setIfInBounds i true).setIfInBounds j true = (listed.setIfInBounds j true).setIfInBounds i true := Array.setIfInBounds_comm _ _ (Ne.symm hji)
   refine wpOp_mono (fun a' w' h4 => ?_) h3
   have hb : (listed.setIfInBounds j true).getD L false = true ∨ S w' := by
    have := h4.2.1
    rw [hcomm, set_getL hiL] at this
    exact this
   refine ⟨hb, ih (listed.setIfInBounds j true) a' w' hfree' (ready_mono hr (Ne.symm hji)) h4.1 hb ?_ ?_⟩
   ·intro hm
    have hjL : j ≠ L := fun e => waitsL_ready hm.1 hin (e ▸ hj)
    have hl : (listed.setIfInBounds j true).getD L false = false := by rw [set_getL hjL]; exact (h2 hm).1
    refine ⟨hl, ?_⟩
    rcases hb with hb | hb
    ·rw [hl] at hb; cases hb
    ·exact hb
   ·rw [← hcomm]; exact h4.2.2
theorem wpAnyL_take {i : Nat} {oi : Oper} {v : Value} {fuel : Nat} {listed : Array Bool} {a : Act} {w : World} (hi : ops[i]? = some oi)
  (hs : Region.noSelect ops = true) (hf : Region.free md ops listed i = true) (hr : (Region.ready md ops listed).contains i = true) (hiL : (i != L) = true) (hl : listed.getD L false = false) (hw : waitsL md ops L i = true)
  (hQ : ∀ c a w, Q (.panic c) (a.put oi.dst v) w → Q (.panic c) a w) (hy : YieldsIf P ops S oi v a) (hS : S w)
  (h : wpAnyL P md ops Q S L fuel (listed.setIfInBounds i true) (a.put oi.dst v) w) : wpAnyL P md ops Q S L (fuel + 1) listed a w :=
 wpAnyL_first hi (Region.noSelect_spec hs) (by simpa using hiL) hQ S (.inl ⟨hw, rfl⟩) fuel listed a w (Region.free_spec hi hf) (by simpa using hr) hy (.inr hS) (fun _ => ⟨hl, hS⟩) h
theorem wpAnyL_pure {i : Nat} {oi : Oper} {v : Value} {fuel : Nat} {listed : Array Bool} {a : Act} {w : World} (hi : ops[i]? = some oi)
  (hs : Region.noSelect ops = true) (hf : Region.free md ops listed i = true) (hr : (Region.ready md ops listed).contains i = true) (hiL : (i != L) = true) (hl : listed.getD L false = false)
  (hQ : ∀ c a w, Q (.panic c) (a.put oi.dst v) w → Q (.panic c) a w) (hy : YieldsIf P ops (fun _ => True) oi v a) (hS : S w)
  (h : wpAnyL P md ops Q S L fuel (listed.setIfInBounds i true) (a.put oi.dst v) w) : wpAnyL P md ops Q S L (fuel + 1) listed a w :=
 wpAnyL_first hi (Region.noSelect_spec hs) (by simpa using hiL) hQ (fun _ => True) (.inr rfl) fuel listed a w (Region.free_spec hi hf) (by simpa using hr) hy (.inr hS) (fun _ => ⟨hl, hS⟩) h
theorem wpAnyL_one {i : Nat} {o : Oper} {fuel : Nat} {listed : Array Bool} {a : Act} {w : World} (hr : Region.ready md ops listed = [i]) (ho : ops[i]? = some o)
  (h : ∀ K' : Act → World → Prop, Shut (∀ a w, S w → (S w → wpAnyL P md ops Q S L fuel (listed.setIfInBounds i true) a w) → K' a w) → if Region.wanted o (yielded ops a.tmps) = true then Oper.wp P o a w K' Q else K' (a.put o.dst undef) w) :
  wpAnyL P md ops Q S L (fuel + 1) listed a w :=
by
 refine ⟨fun h0 => absurd (hr.symm.trans h0) (by simp), fun j hj => ?_⟩
 rw [hr] at hj
 obtain rfl : j = i := by simpa using hj
 exact wpOp_step ho (fun K' hK => h K' (fun a w hS hW => hK a w ⟨.inr hS, hW hS⟩))
theorem wpAnyL_last {o : Oper} {fuel : Nat} {listed : Array Bool} {a : Act} {w : World} (hr : Region.ready md ops listed = [L]) (ho : ops[L]? = some o) (hsz : L < listed.size)
  (h : ∀ K' : Act → World → Prop, Shut (∀ a w, wpAnyL P md ops Q S L fuel (listed.setIfInBounds L true) a w → K' a w) → if Region.wanted o (yielded ops a.tmps) = true then Oper.wp P o a w K' Q else K' (a.put o.dst undef) w) :
  wpAnyL P md ops Q S L (fuel + 1) listed a w :=
by
 refine ⟨fun h0 => absurd (hr.symm.trans h0) (by simp), fun j hj => ?_⟩
 rw [hr] at hj
 obtain rfl : j = L := by simpa using hj
 exact wpOp_step ho (fun K' hK => h K' (fun a w hW => hK a w ⟨.inl (by simp [hsz]), hW⟩))
theorem wpAnyL_done {listed : Array Bool} {a : Act} {w : World} (hr : Region.ready md ops listed = []) (h : Q .normal a w) : ∀ fuel, wpAnyL P md ops Q S L fuel listed a w
 | 0 => ⟨hr, h⟩
 | _ + 1 => ⟨fun _ => h, by rw [hr]; simp⟩
theorem wp_region_L {id : Nat} {a : Act} {w : World} (hm : P.follows .mixedOrders = true) (hS : S w.drew)
  (h : S w.drew → wpAnyL P .any ops Q S L ops.size (Array.replicate ops.size false) a w.drew) : (Code.region id ops true).wp P Q a w :=
 wp_region_any hm (wpAny_of_L _ _ _ _ (h hS))
end
end Go.Proofs.YtkkcfifnkcnceaaGreat
