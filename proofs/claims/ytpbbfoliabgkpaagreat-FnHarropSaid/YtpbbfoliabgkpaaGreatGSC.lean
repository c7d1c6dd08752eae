/- Walks: Visser's rules on both sides. -/
import Derived.Test.YtpbbfoliabgkpaaGreatGL5
import Derived.Test.YtpbbfoliabgkpaaGreatGV7
import Derived.Test.YtpbbfoliabgkpaaGreatGV5
namespace Go.Proofs.YtpbbfoliabgkpaaGreat
open Go.RowKit
theorem OwnR.touch {w w' : World} {S : Nat → Prop} {B : Nat} {v u : Value} {xs : List (List Nd)} {c : List Nd} (h : OwnR w B v u xs c) (k : Touch w w' S) (hS : ∀ i, B ≤ i → ¬ S i) : OwnR w' B v u xs c := by
  obtain ⟨vs, ho, hr, ha, hf⟩ := h
  exact ⟨vs, own_touch ho k (fun i e => hS i (World.ownsRow.lt ho i e).1), hr.touch k (fun i e => hS i (hr.lt e).1), ha, hf⟩
theorem OwnR.setBelow {w : World} {B : Nat} {v u : Value} {xs : List (List Nd)} {c : List Nd} (h : OwnR w B v u xs c) {b o : Nat} (hb : b < B) (x : Value) : OwnR (w.setCell ⟨b, o, none⟩ x) B v u xs c :=
  h.touch (Touch.grown (grown_set b o x)) (fun i hi e => by cases e; omega)
theorem OwnR.mk1 {w1 w2 : World} {B : Nat} {v1 u : Value} {x c : List Nd} (h1 : OwnN w1 B v1 x) (hB : B ≤ w1.heap.size) (kk : Keeps (w1.alloc (.cells #[v1] 24)) w2) (h2 : OwnN w2 (w1.heap.size + 1) u c) :
    OwnR w2 B (.slice (some ⟨w1.heap.size, 0, none⟩) 1 1) u [x] c := by
  have k1 := ((Keeps.refl w1).alloc (.cells #[v1] 24)).trans kk
  have hv := h1.len
  refine ⟨[v1], ?_, RowsN.cons (h2.mono (by omega)) (RowsN.cons (h1.keeps k1) (RowsN.nil _ _)), Apart.cons (fun i hi k hk e => ?_) (Apart.cons (Off.nil _) Apart.nil), fun i hi k hk e => ?_⟩
  · have : (w1.alloc (.cells #[v1] 24)).ownsRow B 24 1 (.slice (some ⟨w1.heap.size, 0, none⟩) 1 1) 1 [v1] :=
      ⟨rfl, .inr ⟨w1.heap.size, 1, _, rfl, hB, heap_alloc_new w1 _, Nat.le_refl _, by simp [maxLen], rfl, rfl⟩⟩
    exact own_keeps this kk
  · obtain rfl : i = 0 := by simp at hi; omega
    have := (h2.len k hk).1
    have := (hv k e).2
    omega
  · have hk' : k = w1.heap.size := by simp [Value.ownBlock] at hk; exact hk.symm
    subst hk'
    cases i with
    | zero => have := (h2.len _ e).1; omega
    | succ i =>
      obtain rfl : i = 0 := by simp at hi; omega
      have := (hv _ e).2; omega
--
set_option maxRecDepth 20000 in
set_option maxHeartbeats 1000000 in
theorem ruleOf_any (t1 t2 : Fm) (s1 s2 : ByteArray) (w : World) (w1 : t1.wf) (w2 : t2.wf) (b1 : bts s1 = t1.body) (b2 : bts s2 = t2.body) (z1 : s1.size ≤ 200) (z2 : s2.size ≤ 200) (l1 : t1.enc.length ≤ 40) (l2 : t2.enc.length ≤ 40) :
    Calls Tryz.prog 134 #[.string s1, .string s2] w fun e w' => ∃ v u, e = .returned (.agg #[v, u]) ∧ OwnR w' w.heap.size v u [t1.enc] t2.enc ∧ Keeps w w' := by
  have H1 := hid (fun w => parsed_any t1 w1 s1 w b1 z1 l1)
  have H2 := hid (fun w => parsed_any t2 w2 s2 w b2 z2 l2)
  clear b1 b2 z1 z2 l1 l2 w1 w2
  have kA := (Keeps.refl w).alloc (.cells #[.slice none 0 0, .slice none 0 0] 37)
  go_enter Tryz.func134, Tryz.ntmps134
  go_wp2_with fail
  refine (H1.out _).mono ?_; rintro e w1 ⟨v1, rfl, hv1, k1⟩
  obtain ⟨p1, n1, q1, rfl⟩ : ∃ p n c, v1 = .slice p n c := by obtain ⟨p, c, e, _⟩ := At.of_own hv1; exact ⟨p, _, c, e⟩
  have kB := (Keeps.refl w1).alloc (.cells #[.slice p1 n1 q1] 24)
  go_wp2_with fail
  refine (H2.out _).mono ?_; rintro e w2 ⟨v2, rfl, hv2, k2⟩
  obtain ⟨p2, n2, q2, rfl⟩ : ∃ p n c, v2 = .slice p n c := by obtain ⟨p, c, e, _⟩ := At.of_own hv2; exact ⟨p, _, c, e⟩
  have k12 := k1.trans (kB.trans k2)
  obtain ⟨hc2, hf2⟩ := k12.both
  have hB : w.heap.size < (w.alloc (.cells #[.slice none 0 0, .slice none 0 0] 37)).heap.size := by simp
  have hs1 := k1.size
  have hR := (OwnR.mk1 hv1 hs1 k2 (by simpa using hv2))
  go_wp2_with fail
  refine bodyPost_ret (v := .agg #[.slice (some ⟨w1.heap.size, 0, none⟩) 1 1, .slice p2 n2 q2]) (by simp [results, Tryz.results134, go_sem, hc2]) rfl ?_
  exact ⟨_, _, rfl, ((hR.setBelow hB _).setBelow hB _).mono (by simp), ((kA.trans k12).setCell (Nat.le_refl _) _).setCell (Nat.le_refl _) _⟩
namespace Vr
def p : Fm := .var 0
def q : Fm := .var 1
def r : Fm := .var 2
def s : Fm := .var 3
def t : Fm := .var 4
def u : Fm := .var 5
def x1 : Fm := .imp p q
def x2 : Fm := .and (.imp p q) (.imp r s)
def p1 : Fm := .imp x1 (.or r s)
def c1 : Fm := .or (.or (.imp x1 p) (.imp x1 r)) (.imp x1 s)
def p2 : Fm := .imp x2 (.or t u)
def c2 : Fm := .or (.or (.or (.imp x2 p) (.imp x2 r)) (.imp x2 t)) (.imp x2 u)
end Vr
def visP (n : Int) : List (List Nd) := if n = 1 then [Vr.p1.enc] else if n = 2 then [Vr.p2.enc] else []
def visC (n : Int) : List Nd := if n = 1 then Vr.c1.enc else if n = 2 then Vr.c2.enc else []
def visE (n : Int) : Int := if n = 1 then 0 else if n = 2 then 0 else 2
theorem vis_wf : Vr.p1.wf ∧ Vr.c1.wf ∧ Vr.p2.wf ∧ Vr.c2.wf := by
  simp [Fm.wf, Vr.p1, Vr.c1, Vr.p2, Vr.c2, Vr.x1, Vr.x2, Vr.p, Vr.q, Vr.r, Vr.s, Vr.t, Vr.u]
--
set_option maxRecDepth 20000 in
set_option maxHeartbeats 1000000 in
theorem implVisserRule_any (n : Int) (w : World) : Calls Tryz.prog 44 #[.int .i64 n] w (RetRE w (visP n) (visC n) (visE n)) := by
  have kA := (Keeps.refl w).alloc (.cells #[.slice none 0 0, .slice none 0 0] 37)
  have hB : w.heap.size < (w.alloc (.cells #[.slice none 0 0, .slice none 0 0] 37)).heap.size := by simp
  obtain ⟨g1, g2, g3, g4⟩ := vis_wf
  by_cases h1 : n = 1
  · subst h1
    have HR := hid (fun w => ruleOf_any Vr.p1 Vr.c1 ⟨#[40, 112, 62, 113, 41, 62, 114, 124, 115]⟩ ⟨#[40, 40, 112, 62, 113, 41, 62, 112, 41, 124, 40, 40, 112, 62, 113, 41, 62, 114, 41, 124, 40, 40, 112, 62, 113, 41, 62, 115, 41]⟩ w g1 g2 (by decide +kernel) (by decide +kernel) (by decide +kernel) (by decide +kernel) (by decide +kernel) (by decide +kernel))
    go_enter Tryz.func44, Tryz.ntmps44
    go_wp2_with fail
    refine (HR.out _).mono ?_; rintro e w2 ⟨v2, u2, rfl, ho2, k2⟩
    obtain ⟨p1, n1, q1, rfl⟩ := agg_shape (ho2.ndsL (by simp) (by decide +kernel))
    obtain ⟨p2, n2, q2, rfl⟩ := (ho2.nds (by decide +kernel)).shape
    obtain ⟨hc2, hf2⟩ := k2.both
    go_wp2_with fail
    refine bodyPost_ret (v := .tuple #[.agg #[.slice p1 n1 q1, .slice p2 n2 q2], .int .i64 0]) (by simp [results, Tryz.results44, go_sem, hc2]) rfl ?_
    exact ⟨_, _, rfl, ((ho2.setBelow hB _).setBelow hB _).mono (by simp), ((kA.trans k2).setCell (Nat.le_refl _) _).setCell (Nat.le_refl _) _⟩
  by_cases h2 : n = 2
  · subst h2
    have HR := hid (fun w => ruleOf_any Vr.p2 Vr.c2 ⟨#[40, 112, 62, 113, 41, 38, 40, 114, 62, 115, 41, 62, 116, 124, 117]⟩ ⟨#[40, 40, 112, 62, 113, 41, 38, 40, 114, 62, 115, 41, 62, 112, 41, 124, 40, 40, 112, 62, 113, 41, 38, 40, 114, 62, 115, 41, 62, 114, 41, 124, 40, 40, 112, 62, 113, 41, 38, 40, 114, 62, 115, 41, 62, 116, 41, 124, 40, 40, 112, 62, 113, 41, 38, 40, 114, 62, 115, 41, 62, 117, 41]⟩ w g3 g4 (by decide +kernel) (by decide +kernel) (by decide +kernel) (by decide +kernel) (by decide +kernel) (by decide +kernel))
    go_enter Tryz.func44, Tryz.ntmps44
    go_wp2_with fail
    refine (HR.out _).mono ?_; rintro e w2 ⟨v2, u2, rfl, ho2, k2⟩
    obtain ⟨p1, n1, q1, rfl⟩ := agg_shape (ho2.ndsL (by simp) (by decide +kernel))
    obtain ⟨p2, n2, q2, rfl⟩ := (ho2.nds (by decide +kernel)).shape
    obtain ⟨hc2, hf2⟩ := k2.both
    go_wp2_with fail
    refine bodyPost_ret (v := .tuple #[.agg #[.slice p1 n1 q1, .slice p2 n2 q2], .int .i64 0]) (by simp [results, Tryz.results44, go_sem, hc2]) rfl ?_
    exact ⟨_, _, rfl, ((ho2.setBelow hB _).setBelow hB _).mono (by simp), ((kA.trans k2).setCell (Nat.le_refl _) _).setCell (Nat.le_refl _) _⟩
  · have e1 : visP n = [] := by simp [visP, h1, h2]
    have e2 : visC n = [] := by simp [visC, h1, h2]
    have e3 : visE n = 2 := by simp [visE, h1, h2]
    rw [e1, e2, e3]
    clear e1 e2 e3 g1 g2 g3 g4
    have d1 : (n == 1) = false := by simp [h1]
    have d2 : (n == 2) = false := by simp [h2]
    go_enter Tryz.func44, Tryz.ntmps44
    go_wp2_with fail
    refine bodyPost_ret (v := .tuple #[.agg #[.slice none 0 0, .slice none 0 0], .int .i64 2]) (by simp [results, Tryz.results44, go_sem]) rfl ?_
    refine ⟨_, _, rfl, OwnR.nil _ _, ?_⟩
    first | exact kA | exact (kA.setCell (Nat.le_refl _) _).setCell (Nat.le_refl _) _
--
set_option maxRecDepth 20000 in
set_option maxHeartbeats 1000000 in
theorem specVisserRule_any (n : Int) (w : World) : Calls Tryz.prog 45 #[.int .i64 n] w (RetRE w (visP n) (visC n) (visE n)) := by
  have kA := (Keeps.refl w).alloc (.cells #[.slice none 0 0, .slice none 0 0] 37)
  have hB : w.heap.size < (w.alloc (.cells #[.slice none 0 0, .slice none 0 0] 37)).heap.size := by simp
  obtain ⟨g1, g2, g3, g4⟩ := vis_wf
  by_cases h1 : n = 1
  · subst h1
    have H1 := hid (fun w => l31Read_any Vr.p1 g1 ⟨#[40, 112, 62, 113, 41, 62, 114, 124, 115]⟩ w (by decide +kernel) (by decide +kernel) (by decide +kernel))
    have H2 := hid (fun w => l31Read_any Vr.c1 g2 ⟨#[40, 40, 112, 62, 113, 41, 62, 112, 41, 124, 40, 40, 112, 62, 113, 41, 62, 114, 41, 124, 40, 40, 112, 62, 113, 41, 62, 115, 41]⟩ w (by decide +kernel) (by decide +kernel) (by decide +kernel))
    go_enter Tryz.func45, Tryz.ntmps45
    go_wp2_with fail
    refine (H1.out _).mono ?_; rintro e w1 ⟨v1, rfl, hv1, k1⟩
    obtain ⟨p1, n1, q1, rfl⟩ : ∃ p n c, v1 = .slice p n c := by obtain ⟨p, c, e, _⟩ := At.of_own hv1; exact ⟨p, _, c, e⟩
    have kB := (Keeps.refl w1).alloc (.cells #[.slice p1 n1 q1] 24)
    go_wp2_with fail
    refine (H2.out _).mono ?_; rintro e w2 ⟨v2, rfl, hv2, k2⟩
    obtain ⟨p2, n2, q2, rfl⟩ : ∃ p n c, v2 = .slice p n c := by obtain ⟨p, c, e, _⟩ := At.of_own hv2; exact ⟨p, _, c, e⟩
    have k12 := k1.trans (kB.trans k2)
    obtain ⟨hc2, hf2⟩ := k12.both
    have hs1 := k1.size
    have hR := (OwnR.mk1 hv1 hs1 k2 (by simpa using hv2))
    go_wp2_with fail
    refine bodyPost_ret (v := .tuple #[.agg #[.slice (some ⟨w1.heap.size, 0, none⟩) 1 1, .slice p2 n2 q2], .int .i64 0]) (by simp [results, Tryz.results45, go_sem, hc2]) rfl ?_
    exact ⟨_, _, rfl, ((hR.setBelow hB _).setBelow hB _).mono (by simp), ((kA.trans k12).setCell (Nat.le_refl _) _).setCell (Nat.le_refl _) _⟩
  by_cases h2 : n = 2
  · subst h2
    have H1 := hid (fun w => l31Read_any Vr.p2 g3 ⟨#[40, 112, 62, 113, 41, 38, 40, 114, 62, 115, 41, 62, 116, 124, 117]⟩ w (by decide +kernel) (by decide +kernel) (by decide +kernel))
    have H2 := hid (fun w => l31Read_any Vr.c2 g4 ⟨#[40, 40, 112, 62, 113, 41, 38, 40, 114, 62, 115, 41, 62, 112, 41, 124, 40, 40, 112, 62, 113, 41, 38, 40, 114, 62, 115, 41, 62, 114, 41, 124, 40, 40, 112, 62, 113, 41, 38, 40, 114, 62, 115, 41, 62, 116, 41, 124, 40, 40, 112, 62, 113, 41, 38, 40, 114, 62, 115, 41, 62, 117, 41]⟩ w (by decide +kernel) (by decide +kernel) (by decide +kernel))
    go_enter Tryz.func45, Tryz.ntmps45
    go_wp2_with fail
    refine (H1.out _).mono ?_; rintro e w1 ⟨v1, rfl, hv1, k1⟩
    obtain ⟨p1, n1, q1, rfl⟩ : ∃ p n c, v1 = .slice p n c := by obtain ⟨p, c, e, _⟩ := At.of_own hv1; exact ⟨p, _, c, e⟩
    have kB := (Keeps.refl w1).alloc (.cells #[.slice p1 n1 q1] 24)
    go_wp2_with fail
    refine (H2.out _).mono ?_; rintro e w2 ⟨v2, rfl, hv2, k2⟩
    obtain ⟨p2, n2, q2, rfl⟩ : ∃ p n c, v2 = .slice p n c := by obtain ⟨p, c, e, _⟩ := At.of_own hv2; exact ⟨p, _, c, e⟩
    have k12 := k1.trans (kB.trans k2)
    obtain ⟨hc2, hf2⟩ := k12.both
    have hs1 := k1.size
    have hR := (OwnR.mk1 hv1 hs1 k2 (by simpa using hv2))
    go_wp2_with fail
    refine bodyPost_ret (v := .tuple #[.agg #[.slice (some ⟨w1.heap.size, 0, none⟩) 1 1, .slice p2 n2 q2], .int .i64 0]) (by simp [results, Tryz.results45, go_sem, hc2]) rfl ?_
    exact ⟨_, _, rfl, ((hR.setBelow hB _).setBelow hB _).mono (by simp), ((kA.trans k12).setCell (Nat.le_refl _) _).setCell (Nat.le_refl _) _⟩
  · have e1 : visP n = [] := by simp [visP, h1, h2]
    have e2 : visC n = [] := by simp [visC, h1, h2]
    have e3 : visE n = 2 := by simp [visE, h1, h2]
    rw [e1, e2, e3]
    clear e1 e2 e3 g1 g2 g3 g4
    have d1 : (n == 1) = false := by simp [h1]
    have d2 : (n == 2) = false := by simp [h2]
    go_enter Tryz.func45, Tryz.ntmps45
    go_wp2_with fail
    refine bodyPost_ret (v := .tuple #[.agg #[.slice none 0 0, .slice none 0 0], .int .i64 2]) (by simp [results, Tryz.results45, go_sem]) rfl ?_
    refine ⟨_, _, rfl, OwnR.nil _ _, ?_⟩
    first | exact kA | exact (kA.setCell (Nat.le_refl _) _).setCell (Nat.le_refl _) _
theorem vis_len (n : Int) : (visP n).length ≤ 1000 ∧ tot (visP n) + (visC n).length ≤ 1000 := by
  unfold visP visC
  split
  · decide +kernel
  · split <;> decide +kernel
end Go.Proofs.YtpbbfoliabgkpaaGreat
/- Substitutions on both sides: images of formulas and of lists of formulas, errors of substitutions. -/
namespace Go.Proofs.YtpbbfoliabgkpaaGreat
open Go.RowKit
/-- the image of a node, of a list of nodes -/
def subN (ims : List (List Nd)) (n : Nd) : List Nd := if n.k = 0 then ims.getD n.s.toNat [] else [n]
def sub (ims : List (List Nd)) : List Nd → List Nd
  | [] => []
  | n :: a => subN ims n ++ sub ims a
theorem sub_append (ims : List (List Nd)) (a b : List Nd) : sub ims (a ++ b) = sub ims a ++ sub ims b := by
  induction a with
  | nil => rfl
  | cons n a ih => simp [sub, ih]
theorem sub_take (ims : List (List Nd)) (a : List Nd) (k : Nat) (h : k < a.length) : sub ims (a.take (k + 1)) = sub ims (a.take k) ++ subN ims a[k] := by
  rw [List.take_succ_eq_append_getElem h, sub_append]; simp [sub]
theorem subN_len {ims : List (List Nd)} {M : Nat} (hM : ∀ x ∈ ims, x.length ≤ M) (h1 : 1 ≤ M) (n : Nd) : (subN ims n).length ≤ M := by
  unfold subN
  split
  · rw [List.getD_eq_getElem?_getD]
    cases h : ims[n.s.toNat]? with
    | none => simp
    | some x => exact hM x (List.mem_of_getElem? h)
  · simpa using h1
theorem sub_len {ims : List (List Nd)} {M : Nat} (hM : ∀ x ∈ ims, x.length ≤ M) (h1 : 1 ≤ M) (a : List Nd) : (sub ims a).length ≤ M * a.length := by
  induction a with
  | nil => simp [sub]
  | cons n a ih => have := subN_len hM h1 n; simp only [sub, List.length_append, List.length_cons, Nat.mul_succ]; omega
theorem sub_le (ims : List (List Nd)) (a : List Nd) (k : Nat) : (sub ims (a.take k)).length ≤ (sub ims a).length := by
  have := sub_append ims (a.take k) (a.drop k)
  rw [List.take_append_drop] at this
  rw [this]; simp
theorem sub_step_le (ims : List (List Nd)) (a : List Nd) (k : Nat) (h : k < a.length) : (sub ims (a.take k)).length + (subN ims a[k]).length ≤ (sub ims a).length := by
  have := sub_le ims a (k + 1)
  rw [sub_take ims a k h] at this
  simpa using this
--
set_option maxRecDepth 20000 in
set_option maxHeartbeats 2000000 in
theorem l03Sub_any (ims : List (List Nd)) (a : List Nd) (va vi : Value) (w : World) (hva : Nds w va a) (hvi : NdsL w vi ims) (ha : a.all okNd = true) (h6 : ims.length = 6) (hl : (sub ims a).length ≤ 1000000) :
    Calls Tryz.prog 114 #[va, vi] w (RetN w (sub ims a)) := by
  have h0 := OwnN.empty w
  have k0 := (Keeps.refl w).alloc (.cells #[] 55)
  have hva0 := hva
  have hvi0 := hvi
  obtain ⟨p, cap, rfl, hle, hmx, _, hlen⟩ := hva
  obtain ⟨pi, ci, rfl, hlei, hmxi, _, _⟩ := hvi
  unfold maxLen at hmx hmxi
  rw [h6] at hlei
  go_enter Tryz.func114, Tryz.ntmps114
  go_wp2
  go_loopw [5, 6] (fun o i' wr => ∃ k : Nat, k ≤ a.length ∧ i' = .int .i64 k ∧ OwnN wr w.heap.size o (sub ims (a.take k)) ∧ Keeps w wr) (fun _ i _ => a.length - (intOf i).toNat)
  case atStart => exact ⟨0, by omega, rfl, by simpa [sub] using h0, k0⟩
  case round =>
    obtain ⟨k, hk, rfl, hown, kw⟩ := hrel
    clear h0 k0
    have hsz := kw.size
    by_cases hlt : k < a.length
    · have hlt' : (k : Int) < a.length := by omega
      have hst := sub_take ims a k hlt
      have hsl := sub_step_le ims a k hlt
      obtain ⟨_, _, e1, _, _, hata, _⟩ := hva0.keeps kw
      cases e1
      obtain ⟨b1, o1, rfl, h1, h2⟩ := hata.nd k hlt
      clear hata
      by_cases g : a[k].k = 0
      · obtain ⟨s, hs6, es⟩ := ok_sym ha k hlt g
        have hg : (a[k].k == 0) = true := by simp [g]
        rw [es] at h2
        have hil : s < ims.length := by omega
        obtain ⟨b2, o2, u, e2, hcu, hu⟩ := (hvi0.keeps kw).get s hil
        subst e2
        have hsn : subN ims a[k] = ims[s] := by unfold subN; rw [if_pos g, es, Int.toNat_natCast, List.getD_eq_getElem?_getD, List.getElem?_eq_getElem hil]; rfl
        rw [hsn] at hst hsl
        obtain ⟨p2, n2, q2, rfl⟩ := hu.shape
        have HST := hid hst; clear hst
        have hs6' : (s : Int) < 6 := by omega
        clear hsn g es hva0 hvi0
        go_wp2_with (at_builtin; refine appN rfl _ _ rfl w.heap.size _ _ rfl hown _ _ rfl hu hsz (by omega) ?_; intro v1 w1 hv1 hg1 hr1; have k2 := kw.grown hg1 hr1)
        go_roundw
        case rel => exact ⟨k + 1, by omega, by go_num, by rw [HST.out]; exact hv1, k2⟩
        case measure => simp [intOf]; omega
      · have hg : (a[k].k == 0) = false := by simp [g]
        have hsn : subN ims a[k] = [a[k]] := by unfold subN; rw [if_neg g]
        rw [hsn] at hst hsl
        have HST := hid hst; clear hst
        have hlit := (OwnN.lit1 wr a[k]).nds (by simp)
        have kb := (Keeps.refl wr).alloc (.cells #[.int .i64 a[k].k, .int .i64 a[k].s] 55)
        simp only [List.length_cons, List.length_nil] at hsl
        clear hsn g hva0 hvi0
        go_wp2_with (at_builtin; refine appN rfl _ _ rfl w.heap.size _ _ rfl (hown.keeps kb) _ _ rfl hlit (by simp; omega) (by simp; omega) ?_; intro v1 w1 hv1 hg1 hr1; have k2 := (kw.trans kb).grown hg1 hr1)
        go_roundw
        case rel => exact ⟨k + 1, by omega, by go_num, by rw [HST.out]; exact hv1, k2⟩
        case measure => simp [intOf]; omega
    · go_wp2
      go_ret
      rw [List.take_of_length_le (by omega)] at hown
      exact ⟨_, rfl, hown, kw⟩
--
set_option maxRecDepth 20000 in
set_option maxHeartbeats 2000000 in
theorem withImages_1_any (ims : List (List Nd)) (a : List Nd) (va vi : Value) (b : Nat) (w : World) (hva : Nds w va a) (hvi : NdsL w vi ims) (hb : w.cell? ⟨b, 0, none⟩ = some vi) (ha : a.all okNd = true) (h6 : ims.length = 6) (hl : (sub ims a).length ≤ 1000000) :
    Calls Tryz.prog 252 #[va, .pointer (some ⟨b, 0, none⟩)] w (RetN w (sub ims a)) := by
  have h0 := OwnN.nil w w.heap.size
  have hva0 := hva
  have hvi0 := hvi
  obtain ⟨p, cap, rfl, hle, hmx, _, hlen⟩ := hva
  obtain ⟨pi, ci, rfl, hlei, hmxi, _, _⟩ := hvi
  unfold maxLen at hmx hmxi
  rw [h6] at hlei hb
  go_enter Tryz.func252, Tryz.ntmps252
  go_wp2
  go_loopw [4, 9] (fun o i' wr => ∃ k : Nat, k ≤ a.length ∧ i' = .int .i64 k ∧ OwnN wr w.heap.size o (sub ims (a.take k)) ∧ Keeps w wr) (fun _ i _ => a.length - (intOf i).toNat)
  case atStart => exact ⟨0, by omega, rfl, by simpa [sub] using h0, Keeps.refl w⟩
  case round =>
    obtain ⟨k, hk, rfl, hown, kw⟩ := hrel
    clear h0
    have hsz := kw.size
    by_cases hlt : k < a.length
    · have hlt' : (k : Int) < a.length := by omega
      have hst := sub_take ims a k hlt
      have hsl := sub_step_le ims a k hlt
      obtain ⟨_, _, e1, _, _, hata, _⟩ := hva0.keeps kw
      cases e1
      obtain ⟨b1, o1, rfl, h1, h2⟩ := hata.nd k hlt
      clear hata
      have kb := (Keeps.refl wr).alloc (.cells #[.int .i64 a[k].k, .int .i64 a[k].s] 55)
      have hbk := kb.cell (kw.cell hb)
      by_cases g : a[k].k = 0
      · obtain ⟨s, hs6, es⟩ := ok_sym ha k hlt g
        have hg : (a[k].k == 0) = true := by simp [g]
        have hil : s < ims.length := by omega
        obtain ⟨b2, o2, u, e2, hcu, hu⟩ := ((hvi0.keeps kw).keeps kb).get s hil
        subst e2
        have hsn : subN ims a[k] = ims[s] := by unfold subN; rw [if_pos g, es, Int.toNat_natCast, List.getD_eq_getElem?_getD, List.getElem?_eq_getElem hil]; rfl
        rw [hsn] at hst hsl
        rw [es] at h2 kb hbk hcu hu
        obtain ⟨p2, n2, q2, rfl⟩ := hu.shape
        have HST := hid hst; clear hst
        have hs6' : (s : Int) < 6 := by omega
        clear hsn g es hva0 hvi0 hb
        go_wp2_with (at_builtin; refine appN rfl _ _ rfl w.heap.size _ _ rfl (hown.keeps kb) _ _ rfl hu (by simp; omega) (by omega) ?_; intro v1 w1 hv1 hg1 hr1; have k2 := (kw.trans kb).grown hg1 hr1)
        go_roundw
        case rel => exact ⟨k + 1, by omega, by go_num, by rw [HST.out]; exact hv1, k2⟩
        case measure => simp [intOf]; omega
      · have hg : (a[k].k == 0) = false := by simp [g]
        have hsn : subN ims a[k] = [a[k]] := by unfold subN; rw [if_neg g]
        rw [hsn] at hst hsl
        have HST := hid hst; clear hst
        have hlit := (OwnN.lit1 (wr.alloc (.cells #[.int .i64 a[k].k, .int .i64 a[k].s] 55)) a[k]).nds (by simp)
        rw [show (wr.alloc (.cells #[.int .i64 a[k].k, .int .i64 a[k].s] 55)).heap.size = wr.heap.size + 1 by simp] at hlit
        have kb2 := kb.alloc (.cells #[.int .i64 a[k].k, .int .i64 a[k].s] 55)
        simp only [List.length_cons, List.length_nil] at hsl
        clear hsn g hva0 hvi0 hb
        go_wp2_with (at_builtin; refine appN rfl _ _ rfl w.heap.size _ _ rfl (hown.keeps kb2) _ _ rfl hlit (by simp; omega) (by simp; omega) ?_; intro v1 w1 hv1 hg1 hr1; have k2 := (kw.trans kb2).grown hg1 hr1)
        go_roundw
        case rel => exact ⟨k + 1, by omega, by go_num, by rw [HST.out]; exact hv1, k2⟩
        case measure => simp [intOf]; omega
    · go_wp2
      go_ret
      rw [List.take_of_length_le (by omega)] at hown
      exact ⟨_, rfl, hown, kw⟩
--
theorem withImages_any (v : Value) (w : World) (h1 : ∃ p n c, v = .slice p n c) :
    Calls Tryz.prog 199 #[v] w fun e w' => e = .returned (.func (.func 252) #[] #[.pointer (some ⟨w.heap.size, 0, none⟩)]) ∧ w' = w.alloc (.cells #[v] 35) := by
  obtain ⟨p, n, c, rfl⟩ := h1
  go_enter Tryz.func199, Tryz.ntmps199
  go_wp2
  go_ret
  exact ⟨rfl, rfl⟩
--
set_option maxRecDepth 20000 in
set_option maxHeartbeats 1000000 in
theorem substitute_any (ims : List (List Nd)) (a : List Nd) (va vi : Value) (w : World) (hva : Nds w va a) (hvi : NdsL w vi ims) (ha : a.all okNd = true) (h6 : ims.length = 6) (hl : (sub ims a).length ≤ 1000000) :
    Calls Tryz.prog 108 #[va, vi] w (RetN w (sub ims a)) := by
  obtain ⟨p1, n1, q1, rfl⟩ := agg_shape hvi
  obtain ⟨p2, n2, q2, rfl⟩ := hva.shape
  have kb := (Keeps.refl w).alloc (.cells #[.slice p1 n1 q1] 35)
  have HW := hid (withImages_any (.slice p1 n1 q1) w ⟨_, _, _, rfl⟩)
  have HS := hid (withImages_1_any ims a _ _ w.heap.size _ (hva.keeps kb) (hvi.keeps kb) (by simp) ha h6 hl)
  clear hva hvi
  go_enter Tryz.func108, Tryz.ntmps108
  go_wp2_with fail
  refine HW.out.mono ?_; rintro e w' ⟨rfl, rfl⟩
  go_wp2_with fail
  refine HS.out.mono ?_; rintro e w2 ⟨v2, rfl, hv2, k2⟩
  go_wp2_with fail
  go_ret
  exact ⟨_, rfl, hv2.mono (by simp), kb.trans k2⟩
end Go.Proofs.YtpbbfoliabgkpaaGreat
/- Errors of substitutions and rules on both sides; images of lists. -/
namespace Go.Proofs.YtpbbfoliabgkpaaGreat
open Go.RowKit
def isSub (l : List (List Nd)) : Bool := allFm l && decide (l.length = 6)
--
set_option maxRecDepth 20000 in
set_option maxHeartbeats 1000000 in
theorem l03Is_any (l : List (List Nd)) (v : Value) (w : World) (hv : NdsL w v l) : Calls Tryz.prog 179 #[v] w fun e w' => e = .returned (.bool (isSub l)) ∧ w = w' := by
  have hv0 := hv
  obtain ⟨p, cap, rfl, hle, hmx, hlm, _⟩ := hv
  unfold maxLen at hmx
  go_enter Tryz.func179, Tryz.ntmps179
  go_wp2
  go_loop [2, 3] (fun r i' => ∃ k : Nat, k ≤ l.length ∧ i' = .int .i64 k ∧ r = .bool false ∧ ∀ j (h : j < l.length), j < k → isFm l[j] = true) (fun _ i => l.length - (intOf i).toNat)
  case atStart => exact ⟨0, by omega, rfl, rfl, fun j h hj => by omega⟩
  case round =>
    obtain ⟨k, hk, rfl, rfl, hs⟩ := hrel
    have Hs := hid hs; clear hs
    by_cases hlt : k < l.length
    · obtain ⟨b, off, u, rfl, hc, hu⟩ := hv0.get k hlt
      have hlt' : (k : Int) < l.length := by omega
      have HF := hid (l02Is_any l[k] u w hu)
      obtain ⟨p1, n1, q1, rfl⟩ := hu.shape
      clear hu hv0
      cases hf : isFm l[k]
      · rw [hf] at HF
        have Hf := hid hf; clear hf
        go_wp2_with fail
        refine HF.out.mono ?_; rintro e w' ⟨rfl, rfl⟩
        go_wp2_with fail
        go_ret
        refine ⟨ret_bool ?_, rfl⟩
        have h1 : l.any (fun x => !isFm x) = true := List.any_eq_true.2 ⟨_, List.getElem_mem hlt, by rw [Hf.out]; rfl⟩
        simp [isSub, allFm, h1]
      · rw [hf] at HF
        have Hf := hid hf; clear hf
        go_wp2_with fail
        refine HF.out.mono ?_; rintro e w' ⟨rfl, rfl⟩
        go_wp2_with fail
        go_round
        case rel => exact ⟨k + 1, by omega, by go_num, rfl, fun j h hj => by
          by_cases e : j = k
          · subst e; exact Hf.out
          · exact Hs.out j h (by omega)⟩
        case measure => simp [intOf]; omega
    · have hall : allFm l = true := by
        unfold allFm
        rw [Bool.not_eq_true', Bool.eq_false_iff]; intro h
        obtain ⟨x, hx, h2⟩ := List.any_eq_true.1 h
        obtain ⟨j, hj, rfl⟩ := List.getElem_of_mem hx
        rw [Hs.out j hj (by omega)] at h2; cases h2
      have HA := hid hall; clear hall
      have hbb : ((l.length : Int) == 6) = decide (l.length = 6) := by
        by_cases h : l.length = 6
        · simp [h]
        · rw [decide_eq_false h]; simp; omega
      have HB := hid hbb; clear hbb
      go_wp2
      go_ret
      exact ⟨ret_bool (by rw [isSub, HA.out, Bool.true_and]; exact HB.out), rfl⟩
--
set_option maxRecDepth 20000 in
set_option maxHeartbeats 1000000 in
theorem isSubstitution_any (l : List (List Nd)) (v : Value) (w : World) (hv : NdsL w v l) : Calls Tryz.prog 174 #[v] w fun e w' => e = .returned (.bool (isSub l)) ∧ Keeps w w' := by
  have HF := hid (areFormulas_any l v w hv)
  obtain ⟨p, cap, rfl, hle, hmx, hlm, _⟩ := hv
  unfold maxLen at hmx
  by_cases h : l.length = 6
  · have hb : ((l.length : Int) == 6) = true := by simp [h]
    have H := hid h; clear h
    go_enter Tryz.func174, Tryz.ntmps174
    go_wp2_with fail
    refine HF.out.mono ?_; rintro e w2 ⟨rfl, k2⟩
    go_wp2_with fail
    go_ret
    exact ⟨ret_bool (by simp [isSub, H.out]), k2⟩
  · have hb : ((l.length : Int) == 6) = false := by simp; omega
    have H := hid h; clear h
    go_enter Tryz.func174, Tryz.ntmps174
    go_wp2_with fail
    go_ret
    exact ⟨ret_bool (by simp [isSub, H.out]), Keeps.refl _⟩
--
theorem allPlain_1_any (x : List Nd) (u : Value) (w : World) (hu : Nds w u x) : Calls Tryz.prog 241 #[u] w fun e w' => e = .returned (.bool (!plainL x)) ∧ Keeps w w' := by
  have HP := hid (isPlain_any x u w hu)
  obtain ⟨p, n, c, rfl⟩ := hu.shape
  go_enter Tryz.func241, Tryz.ntmps241
  go_wp2_with fail
  refine HP.out.mono ?_; rintro e w2 ⟨rfl, k2⟩
  go_wp2_with fail
  go_ret
  exact ⟨rfl, k2⟩
theorem enters_allPlain_1 : Enters 241 := fun _ _ => by kernel_rfl
theorem allPlain_any (l : List (List Nd)) (v : Value) (w : World) (hv : NdsL w v l) : Calls Tryz.prog 175 #[v] w fun e w' => e = .returned (.bool (!allPlainL l)) ∧ Keeps w w' := by
  have HC := hid (containsFuncL (fun x => !plainL x) 241 #[] l v w hv enters_allPlain_1 (fun x u w1 _ _ h => allPlain_1_any x u w1 h))
  obtain ⟨p, cap, rfl, _⟩ := hv
  go_enter Tryz.func175, Tryz.ntmps175
  go_wp2_with fail
  refine HC.out.mono ?_; rintro e w2 ⟨rfl, k2⟩
  go_wp2_with fail
  go_ret
  exact ⟨rfl, k2⟩
/-- the error for formulas whose error is known, and a substitution -/
def imgErr (one : Int) (l : List (List Nd)) : Int := if one = 1 ∨ isSub l = false then 1 else if one ≠ 0 ∨ allPlainL l = true then 5 else 0
--
set_option maxRecDepth 20000 in
set_option maxHeartbeats 1000000 in
theorem imagesCode_any (one : Int) (l : List (List Nd)) (v : Value) (w : World) (hv : NdsL w v l) : Calls Tryz.prog 76 #[.int .i64 one, v] w fun e w' => e = .returned (.int .i64 (imgErr one l)) ∧ Keeps w w' := by
  have HS := hid (isSubstitution_any l v w hv)
  have HP := hid (fun w2 (k : Keeps w w2) => allPlain_any l v w2 (hv.keeps k))
  obtain ⟨p, cap, rfl, _⟩ := hv
  by_cases h1 : one = 1
  · subst h1
    go_enter Tryz.func76, Tryz.ntmps76
    go_wp2_with fail
    go_ret
    exact ⟨ret_int (by simp [imgErr]), Keeps.refl _⟩
  · have hb1 : (one == 1) = false := by simp [h1]
    have H1 := hid h1; clear h1
    cases hs : isSub l
    · rw [hs] at HS
      have Hs := hid hs; clear hs
      go_enter Tryz.func76, Tryz.ntmps76
      go_wp2_with fail
      refine HS.out.mono ?_; rintro e w2 ⟨rfl, k2⟩
      go_wp2_with fail
      go_ret
      exact ⟨ret_int (by simp [imgErr, Hs.out]), k2⟩
    · rw [hs] at HS
      have Hs := hid hs; clear hs
      by_cases h0 : one = 0
      · have hb0 : (one != 0) = false := by simp [h0]
        have H0 := hid h0; clear h0
        cases hp : allPlainL l
        all_goals
          rw [hp] at HP
          have Hp := hid hp; clear hp
          go_enter Tryz.func76, Tryz.ntmps76
          go_wp2_with fail
          refine HS.out.mono ?_; rintro e w2 ⟨rfl, k2⟩
          go_wp2_with fail
          refine (HP.out _ k2).mono ?_; rintro e w3 ⟨rfl, k3⟩
          go_wp2_with fail
          go_ret
          exact ⟨ret_int (by simp [imgErr, Hs.out, Hp.out, H0.out]), k2.trans k3⟩
      · have hb0 : (one != 0) = true := by simp [h0]
        have H0 := hid h0; clear h0
        go_enter Tryz.func76, Tryz.ntmps76
        go_wp2_with fail
        refine HS.out.mono ?_; rintro e w2 ⟨rfl, k2⟩
        go_wp2_with fail
        go_ret
        exact ⟨ret_int (by simp [imgErr, Hs.out, H0.out, H1.out]), k2⟩
--
def imsErr (l : List (List Nd)) : Int := if isSub l then plainErrs l else 1
theorem l31Images_any (l : List (List Nd)) (v : Value) (w : World) (hv : NdsL w v l) : Calls Tryz.prog 84 #[v] w fun e w' => e = .returned (.int .i64 (imsErr l)) ∧ w = w' := by
  have HS := hid (l03Is_any l v w hv)
  have HP := hid (l31Plain_any l v w hv)
  obtain ⟨p, cap, rfl, _⟩ := hv
  cases hs : isSub l
  · rw [hs] at HS
    have Hs := hid hs; clear hs
    go_enter Tryz.func84, Tryz.ntmps84
    go_wp2_with fail
    refine HS.out.mono ?_; rintro e w' ⟨rfl, rfl⟩
    go_wp2_with fail
    go_ret
    exact ⟨ret_int (by simp [imsErr, Hs.out]), rfl⟩
  · rw [hs] at HS
    have Hs := hid hs; clear hs
    go_enter Tryz.func84, Tryz.ntmps84
    go_wp2_with fail
    refine HS.out.mono ?_; rintro e w' ⟨rfl, rfl⟩
    go_wp2_with fail
    refine HP.out.mono ?_; rintro e w' ⟨rfl, rfl⟩
    go_wp2_with fail
    go_ret
    exact ⟨ret_int (by simp [imsErr, Hs.out]), rfl⟩
--
set_option maxHeartbeats 1000000 in
theorem l31Both_any (one : Int) (l : List (List Nd)) (w : World) (ho : one = 0 ∨ one = 1 ∨ one = 5) : Calls Tryz.prog 82 #[.int .i64 one, .int .i64 (imsErr l)] w fun e w' => e = .returned (.int .i64 (imgErr one l)) ∧ w = w' := by
  have hi : (isSub l = false ∧ imsErr l = 1) ∨ (isSub l = true ∧ allPlainL l = true ∧ imsErr l = 5) ∨ (isSub l = true ∧ allPlainL l = false ∧ imsErr l = 0) := by
    unfold imsErr plainErrs
    cases hs : isSub l
    · simp
    · have : allFm l = true := by simp [isSub] at hs; exact hs.1
      cases hp : allPlainL l <;> simp [this]
  rcases hi with ⟨h1, h2⟩ | ⟨h1, h3, h2⟩ | ⟨h1, h3, h2⟩ <;> rcases ho with rfl | rfl | rfl
  all_goals
    rw [h2]
    have H1 := hid h1; clear h1
    try (have H3 := hid h3; clear h3)
    clear h2
    go_enter Tryz.func82, Tryz.ntmps82
    go_wp2
    go_ret
    refine ⟨ret_int ?_, rfl⟩
    first
    | (simp [imgErr, H1.out]; done)
    | (simp [imgErr, H1.out, H3.out]; done)
    | (simp [imgErr, H1.out, H3.out]; omega)
/-- the greatest number of nodes of a list -/
def mostL (l : List (List Nd)) : Nat := l.foldl (fun m x => max m x.length) 0
theorem mostL_snoc (l : List (List Nd)) (x : List Nd) : mostL (l ++ [x]) = max (mostL l) x.length := by simp [mostL, List.foldl_append]
theorem fold_max_le (l : List (List Nd)) : ∀ (m n : Nat), (l.foldl (fun m x => max m x.length) m ≤ n ↔ m ≤ n ∧ ∀ x ∈ l, x.length ≤ n) := by
  induction l with
  | nil => intro m n; simp
  | cons y l ih => intro m n; simp only [List.foldl_cons, ih, List.forall_mem_cons]; constructor <;> intro h <;> refine ⟨?_, ?_⟩ <;> (try omega) <;> (try exact ⟨by omega, h.2⟩) <;> (try exact h.2.2)
theorem mostL_le (l : List (List Nd)) (n : Nat) : mostL l ≤ n ↔ ∀ x ∈ l, x.length ≤ n := by unfold mostL; rw [fold_max_le]; simp
--
set_option maxRecDepth 20000 in
set_option maxHeartbeats 2000000 in
theorem l31Image_any (ims l : List (List Nd)) (vl vi : Value) (w : World) (hvl : NdsL w vl l) (hvi : NdsL w vi ims) (ha : ∀ a ∈ l, a.all okNd = true) (h6 : ims.length = 6) (hl : ∀ a ∈ l, (sub ims a).length ≤ 100000) (hll : l.length ≤ 1000) :
    Calls Tryz.prog 85 #[vl, vi] w fun e w' => ∃ v, e = .returned (.tuple #[v, .int .i64 (mostL (l.map (sub ims)))]) ∧ OwnL w' w.heap.size v (l.map (sub ims)) ∧ Keeps w w' := by
  have h0 := OwnL.empty w
  have k0 := (Keeps.refl w).alloc (.cells #[] 24)
  have hvl0 := hvl
  have hvi0 := hvi
  have H6 := hid h6; clear h6
  obtain ⟨p, cap, rfl, hle, hmx, _, hlen⟩ := hvl
  obtain ⟨pi, ni, ci, rfl⟩ := agg_shape hvi
  clear hvi
  unfold maxLen at hmx
  go_enter Tryz.func85, Tryz.ntmps85
  go_wp2
  go_loopw [6, 7, 8, 9] (fun o m i' _ wr => ∃ k : Nat, k ≤ l.length ∧ i' = .int .i64 k ∧ m = .int .i64 (mostL ((l.take k).map (sub ims))) ∧ OwnL wr w.heap.size o ((l.take k).map (sub ims)) ∧ Keeps w wr) (fun _ _ i _ _ => l.length - (intOf i).toNat)
  case atStart => exact ⟨0, by omega, rfl, rfl, by simpa using h0, k0⟩
  case round =>
    obtain ⟨k, hk, rfl, rfl, hown, kw⟩ := hrel
    clear h0 k0
    have hsz := kw.size
    by_cases hlt : k < l.length
    · have hlt' : (k : Int) < l.length := by omega
      have hst : (l.take (k + 1)).map (sub ims) = (l.take k).map (sub ims) ++ [sub ims l[k]] := by rw [List.take_succ_eq_append_getElem hlt, List.map_append]; rfl
      have hms : mostL ((l.take (k + 1)).map (sub ims)) = max (mostL ((l.take k).map (sub ims))) (sub ims l[k]).length := by rw [hst, mostL_snoc]
      obtain ⟨b2, o2, u, e2, hcu, hu⟩ := (hvl0.keeps kw).get k hlt
      subst e2
      obtain ⟨p2, n2, q2, rfl⟩ := hu.shape
      have HST := hid hst; clear hst
      have HMS := hid hms; clear hms
      have HSUB := hid (l03Sub_any ims l[k] _ _ wr hu (hvi0.keeps kw) (ha _ (List.getElem_mem hlt)) H6.out (by have := hl _ (List.getElem_mem hlt); omega))
      have hsl := hl _ (List.getElem_mem hlt)
      have hlen2 : ((l.take k).map (sub ims)).length ≤ 1000 := by simp; omega
      clear hu hvl0 hvi0 hlen
      generalize mostL ((l.take k).map (sub ims)) = M at *
      generalize (l.take k).map (sub ims) = L at *
      go_wp2_with fail
      refine HSUB.out.mono ?_; rintro e w2 ⟨v2, rfl, hv2, k2⟩
      obtain ⟨p3, n3, q3, rfl, hn3⟩ : ∃ p n c, v2 = .slice p n c ∧ n = (sub ims l[k]).length := by obtain ⟨p, c, e, _⟩ := At.of_own hv2; exact ⟨p, _, c, e, rfl⟩
      have HN3 := hid hn3; clear hn3
      have k3 := k2.alloc (.cells #[.slice p3 n3 q3] 24)
      have hv3 := hv2.keeps ((Keeps.refl w2).alloc (.cells #[.slice p3 n3 q3] 24))
      have hat := At.lit1 w2 (.slice p3 n3 q3) 24
      have hn3l : n3 ≤ 100000 := by have := HN3.out; omega
      go_wp2_with (at_builtin; refine appL rfl _ _ rfl w.heap.size _ L rfl wr hown k3 _ _ hv3 hsz _ _ rfl hat (by omega) ?_; intro v4 w4 hv4 hg4 hr4; have k4 := (kw.trans k3).grown hg4 hr4)
      go_roundw
      case rel => exact ⟨k + 1, by omega, by go_num, by rw [HMS.out, ← HN3.out]; first | rfl | (congr 1; omega), by rw [HST.out]; exact hv4, k4⟩
      case measure => simp [intOf]; omega
    · have e : l.take k = l := List.take_of_length_le (by omega)
      rw [e] at hown
      rw [e]
      clear e
      go_wp2
      go_ret2
      exact ⟨_, rfl, hown, kw⟩
end Go.Proofs.YtpbbfoliabgkpaaGreat
