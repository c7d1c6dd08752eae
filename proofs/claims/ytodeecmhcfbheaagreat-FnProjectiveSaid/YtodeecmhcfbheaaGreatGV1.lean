/- Walks: Visser's rules on both sides. -/
import Derived.Test.YtodeecmhcfbheaaGreatGL5
import Derived.Test.YtodeecmhcfbheaaGreatGP6
namespace Go.Proofs.YtodeecmhcfbheaaGreat
open Go.RowKit
theorem OwnR.touch {w w' : World} {S : Nat → Prop} {B : Nat} {v u : Value} {xs : List (List Nd)} {c : List Nd} (h : OwnR w B v u xs c) (k : Touch w w' S) (hS : ∀ i, B ≤ i → ¬ S i) : OwnR w' B v u xs c := by
  obtain ⟨vs, ho, hr, ha, hf⟩ := h
  exact ⟨vs, own_touch ho k (fun i e => hS i (World.ownsRow.lt ho i e).1), hr.touch k (fun i e => hS i (hr.lt e).1), ha, hf⟩
theorem OwnR.setBelow {w : World} {B : Nat} {v u : Value} {xs : List (List Nd)} {c : List Nd} (h : OwnR w B v u xs c) {b o : Nat} (hb : b < B) (x : Value) : OwnR (w.setCell ⟨b, o, none⟩ x) B v u xs c :=
  h.touch (Touch.grown (grown_set b o x)) (fun i hi e => by cases e; omega)
theorem OwnR.mk1 {w1 w2 : World} {B : Nat} {v1 u : Value} {x c : List Nd} (h1 : OwnN w1 B v1 x) (hB : B ≤ w1.heap.size) (kk : Keeps (w1.alloc (.cells #[v1] 24)) w2) (h2 : OwnN w2 (w1.heap.size + 1) u c) :
    OwnR w2 B (.slice (some ⟨w1.heap.size, 0, none⟩) 1 1) u [x] c := by
  have k1 := ((Keeps.refl w1).alloc (.cells #[v1] 24)).trans kk
  have hv := h1.len
  refine ⟨[v1], ?_, RowsN.cons (h2.mono (by omega)) (RowsN.cons (h1.keeps k1) (RowsN.nil _ _)), Apart.cons (fun i hi k hk e => ?_) (Apart.cons (Off.nil _) Apart.nil), fun i hi k hk e => ?_⟩
  · have : (w1.alloc (.cells #[v1] 24)).ownsRow B 24 1 (.slice (some ⟨w1.heap.size, 0, none⟩) 1 1) 1 [v1] :=
      ⟨rfl, .inr ⟨w1.heap.size, 1, _, rfl, hB, heap_alloc_new w1 _, Nat.le_refl _, by simp [maxLen], rfl, rfl⟩⟩
    exact own_keeps this kk
  · obtain rfl : i = 0 := by simp at hi; omega
    have := (h2.len k hk).1
    have := (hv k e).2
    omega
  · have hk' : k = w1.heap.size := by simp [Value.ownBlock] at hk; exact hk.symm
    subst hk'
    cases i with
    | zero => have := (h2.len _ e).1; omega
    | succ i =>
      obtain rfl : i = 0 := by simp at hi; omega
      have := (hv _ e).2; omega
--
set_option maxRecDepth 20000 in
set_option maxHeartbeats 1000000 in
theorem ruleOf_any (t1 t2 : Fm) (s1 s2 : ByteArray) (w : World) (w1 : t1.wf) (w2 : t2.wf) (b1 : bts s1 = t1.body) (b2 : bts s2 = t2.body) (z1 : s1.size ≤ 200) (z2 : s2.size ≤ 200) (l1 : t1.enc.length ≤ 40) (l2 : t2.enc.length ≤ 40) :
    Calls Tryz.prog 138 #[.string s1, .string s2] w fun e w' => ∃ v u, e = .returned (.agg #[v, u]) ∧ OwnR w' w.heap.size v u [t1.enc] t2.enc ∧ Keeps w w' := by
  have H1 := hid (fun w => parsed_any t1 w1 s1 w b1 z1 l1)
  have H2 := hid (fun w => parsed_any t2 w2 s2 w b2 z2 l2)
  clear b1 b2 z1 z2 l1 l2 w1 w2
  have kA := (Keeps.refl w).alloc (.cells #[.slice none 0 0, .slice none 0 0] 37)
  go_enter Tryz.func138, Tryz.ntmps138
  go_wp2_with fail
  refine (H1.out _).mono ?_; rintro e w1 ⟨v1, rfl, hv1, k1⟩
  obtain ⟨p1, n1, q1, rfl⟩ : ∃ p n c, v1 = .slice p n c := by obtain ⟨p, c, e, _⟩ := At.of_own hv1; exact ⟨p, _, c, e⟩
  have kB := (Keeps.refl w1).alloc (.cells #[.slice p1 n1 q1] 24)
  go_wp2_with fail
  refine (H2.out _).mono ?_; rintro e w2 ⟨v2, rfl, hv2, k2⟩
  obtain ⟨p2, n2, q2, rfl⟩ : ∃ p n c, v2 = .slice p n c := by obtain ⟨p, c, e, _⟩ := At.of_own hv2; exact ⟨p, _, c, e⟩
  have k12 := k1.trans (kB.trans k2)
  obtain ⟨hc2, hf2⟩ := k12.both
  have hB : w.heap.size < (w.alloc (.cells #[.slice none 0 0, .slice none 0 0] 37)).heap.size := by simp
  have hs1 := k1.size
  have hR := (OwnR.mk1 hv1 hs1 k2 (by simpa using hv2))
  go_wp2_with fail
  refine bodyPost_ret (v := .agg #[.slice (some ⟨w1.heap.size, 0, none⟩) 1 1, .slice p2 n2 q2]) (by simp [results, Tryz.results138, go_sem, hc2]) rfl ?_
  exact ⟨_, _, rfl, ((hR.setBelow hB _).setBelow hB _).mono (by simp), ((kA.trans k12).setCell (Nat.le_refl _) _).setCell (Nat.le_refl _) _⟩
namespace Vr
def p : Fm := .var 0
def q : Fm := .var 1
def r : Fm := .var 2
def s : Fm := .var 3
def t : Fm := .var 4
def u : Fm := .var 5
def x1 : Fm := .imp p q
def x2 : Fm := .and (.imp p q) (.imp r s)
def p1 : Fm := .imp x1 (.or r s)
def c1 : Fm := .or (.or (.imp x1 p) (.imp x1 r)) (.imp x1 s)
def p2 : Fm := .imp x2 (.or t u)
def c2 : Fm := .or (.or (.or (.imp x2 p) (.imp x2 r)) (.imp x2 t)) (.imp x2 u)
end Vr
def visP (n : Int) : List (List Nd) := if n = 1 then [Vr.p1.enc] else if n = 2 then [Vr.p2.enc] else []
def visC (n : Int) : List Nd := if n = 1 then Vr.c1.enc else if n = 2 then Vr.c2.enc else []
def visE (n : Int) : Int := if n = 1 then 0 else if n = 2 then 0 else 2
theorem vis_wf : Vr.p1.wf ∧ Vr.c1.wf ∧ Vr.p2.wf ∧ Vr.c2.wf := by
  simp [Fm.wf, Vr.p1, Vr.c1, Vr.p2, Vr.c2, Vr.x1, Vr.x2, Vr.p, Vr.q, Vr.r, Vr.s, Vr.t, Vr.u]
--
set_option maxRecDepth 20000 in
set_option maxHeartbeats 1000000 in
theorem implVisserRule_any (n : Int) (w : World) : Calls Tryz.prog 58 #[.int .i64 n] w (RetRE w (visP n) (visC n) (visE n)) := by
  have kA := (Keeps.refl w).alloc (.cells #[.slice none 0 0, .slice none 0 0] 37)
  have hB : w.heap.size < (w.alloc (.cells #[.slice none 0 0, .slice none 0 0] 37)).heap.size := by simp
  obtain ⟨g1, g2, g3, g4⟩ := vis_wf
  by_cases h1 : n = 1
  · subst h1
    have HR := hid (fun w => ruleOf_any Vr.p1 Vr.c1 ⟨#[40, 112, 62, 113, 41, 62, 114, 124, 115]⟩ ⟨#[40, 40, 112, 62, 113, 41, 62, 112, 41, 124, 40, 40, 112, 62, 113, 41, 62, 114, 41, 124, 40, 40, 112, 62, 113, 41, 62, 115, 41]⟩ w g1 g2 (by decide +kernel) (by decide +kernel) (by decide +kernel) (by decide +kernel) (by decide +kernel) (by decide +kernel))
    go_enter Tryz.func58, Tryz.ntmps58
    go_wp2_with fail
    refine (HR.out _).mono ?_; rintro e w2 ⟨v2, u2, rfl, ho2, k2⟩
    obtain ⟨p1, n1, q1, rfl⟩ := agg_shape (ho2.ndsL (by simp) (by decide +kernel))
    obtain ⟨p2, n2, q2, rfl⟩ := (ho2.nds (by decide +kernel)).shape
    obtain ⟨hc2, hf2⟩ := k2.both
    go_wp2_with fail
    refine bodyPost_ret (v := .tuple #[.agg #[.slice p1 n1 q1, .slice p2 n2 q2], .int .i64 0]) (by simp [results, Tryz.results58, go_sem, hc2]) rfl ?_
    exact ⟨_, _, rfl, ((ho2.setBelow hB _).setBelow hB _).mono (by simp), ((kA.trans k2).setCell (Nat.le_refl _) _).setCell (Nat.le_refl _) _⟩
  by_cases h2 : n = 2
  · subst h2
    have HR := hid (fun w => ruleOf_any Vr.p2 Vr.c2 ⟨#[40, 112, 62, 113, 41, 38, 40, 114, 62, 115, 41, 62, 116, 124, 117]⟩ ⟨#[40, 40, 112, 62, 113, 41, 38, 40, 114, 62, 115, 41, 62, 112, 41, 124, 40, 40, 112, 62, 113, 41, 38, 40, 114, 62, 115, 41, 62, 114, 41, 124, 40, 40, 112, 62, 113, 41, 38, 40, 114, 62, 115, 41, 62, 116, 41, 124, 40, 40, 112, 62, 113, 41, 38, 40, 114, 62, 115, 41, 62, 117, 41]⟩ w g3 g4 (by decide +kernel) (by decide +kernel) (by decide +kernel) (by decide +kernel) (by decide +kernel) (by decide +kernel))
    go_enter Tryz.func58, Tryz.ntmps58
    go_wp2_with fail
    refine (HR.out _).mono ?_; rintro e w2 ⟨v2, u2, rfl, ho2, k2⟩
    obtain ⟨p1, n1, q1, rfl⟩ := agg_shape (ho2.ndsL (by simp) (by decide +kernel))
    obtain ⟨p2, n2, q2, rfl⟩ := (ho2.nds (by decide +kernel)).shape
    obtain ⟨hc2, hf2⟩ := k2.both
    go_wp2_with fail
    refine bodyPost_ret (v := .tuple #[.agg #[.slice p1 n1 q1, .slice p2 n2 q2], .int .i64 0]) (by simp [results, Tryz.results58, go_sem, hc2]) rfl ?_
    exact ⟨_, _, rfl, ((ho2.setBelow hB _).setBelow hB _).mono (by simp), ((kA.trans k2).setCell (Nat.le_refl _) _).setCell (Nat.le_refl _) _⟩
  · have e1 : visP n = [] := by simp [visP, h1, h2]
    have e2 : visC n = [] := by simp [visC, h1, h2]
    have e3 : visE n = 2 := by simp [visE, h1, h2]
    rw [e1, e2, e3]
    clear e1 e2 e3 g1 g2 g3 g4
    have d1 : (n == 1) = false := by simp [h1]
    have d2 : (n == 2) = false := by simp [h2]
    go_enter Tryz.func58, Tryz.ntmps58
    go_wp2_with fail
    refine bodyPost_ret (v := .tuple #[.agg #[.slice none 0 0, .slice none 0 0], .int .i64 2]) (by simp [results, Tryz.results58, go_sem]) rfl ?_
    refine ⟨_, _, rfl, OwnR.nil _ _, ?_⟩
    first | exact kA | exact (kA.setCell (Nat.le_refl _) _).setCell (Nat.le_refl _) _
--
set_option maxRecDepth 20000 in
set_option maxHeartbeats 1000000 in
theorem specVisserRule_any (n : Int) (w : World) : Calls Tryz.prog 59 #[.int .i64 n] w (RetRE w (visP n) (visC n) (visE n)) := by
  have kA := (Keeps.refl w).alloc (.cells #[.slice none 0 0, .slice none 0 0] 37)
  have hB : w.heap.size < (w.alloc (.cells #[.slice none 0 0, .slice none 0 0] 37)).heap.size := by simp
  obtain ⟨g1, g2, g3, g4⟩ := vis_wf
  by_cases h1 : n = 1
  · subst h1
    have H1 := hid (fun w => l31Read_any Vr.p1 g1 ⟨#[40, 112, 62, 113, 41, 62, 114, 124, 115]⟩ w (by decide +kernel) (by decide +kernel) (by decide +kernel))
    have H2 := hid (fun w => l31Read_any Vr.c1 g2 ⟨#[40, 40, 112, 62, 113, 41, 62, 112, 41, 124, 40, 40, 112, 62, 113, 41, 62, 114, 41, 124, 40, 40, 112, 62, 113, 41, 62, 115, 41]⟩ w (by decide +kernel) (by decide +kernel) (by decide +kernel))
    go_enter Tryz.func59, Tryz.ntmps59
    go_wp2_with fail
    refine (H1.out _).mono ?_; rintro e w1 ⟨v1, rfl, hv1, k1⟩
    obtain ⟨p1, n1, q1, rfl⟩ : ∃ p n c, v1 = .slice p n c := by obtain ⟨p, c, e, _⟩ := At.of_own hv1; exact ⟨p, _, c, e⟩
    have kB := (Keeps.refl w1).alloc (.cells #[.slice p1 n1 q1] 24)
    go_wp2_with fail
    refine (H2.out _).mono ?_; rintro e w2 ⟨v2, rfl, hv2, k2⟩
    obtain ⟨p2, n2, q2, rfl⟩ : ∃ p n c, v2 = .slice p n c := by obtain ⟨p, c, e, _⟩ := At.of_own hv2; exact ⟨p, _, c, e⟩
    have k12 := k1.trans (kB.trans k2)
    obtain ⟨hc2, hf2⟩ := k12.both
    have hs1 := k1.size
    have hR := (OwnR.mk1 hv1 hs1 k2 (by simpa using hv2))
    go_wp2_with fail
    refine bodyPost_ret (v := .tuple #[.agg #[.slice (some ⟨w1.heap.size, 0, none⟩) 1 1, .slice p2 n2 q2], .int .i64 0]) (by simp [results, Tryz.results59, go_sem, hc2]) rfl ?_
    exact ⟨_, _, rfl, ((hR.setBelow hB _).setBelow hB _).mono (by simp), ((kA.trans k12).setCell (Nat.le_refl _) _).setCell (Nat.le_refl _) _⟩
  by_cases h2 : n = 2
  · subst h2
    have H1 := hid (fun w => l31Read_any Vr.p2 g3 ⟨#[40, 112, 62, 113, 41, 38, 40, 114, 62, 115, 41, 62, 116, 124, 117]⟩ w (by decide +kernel) (by decide +kernel) (by decide +kernel))
    have H2 := hid (fun w => l31Read_any Vr.c2 g4 ⟨#[40, 40, 112, 62, 113, 41, 38, 40, 114, 62, 115, 41, 62, 112, 41, 124, 40, 40, 112, 62, 113, 41, 38, 40, 114, 62, 115, 41, 62, 114, 41, 124, 40, 40, 112, 62, 113, 41, 38, 40, 114, 62, 115, 41, 62, 116, 41, 124, 40, 40, 112, 62, 113, 41, 38, 40, 114, 62, 115, 41, 62, 117, 41]⟩ w (by decide +kernel) (by decide +kernel) (by decide +kernel))
    go_enter Tryz.func59, Tryz.ntmps59
    go_wp2_with fail
    refine (H1.out _).mono ?_; rintro e w1 ⟨v1, rfl, hv1, k1⟩
    obtain ⟨p1, n1, q1, rfl⟩ : ∃ p n c, v1 = .slice p n c := by obtain ⟨p, c, e, _⟩ := At.of_own hv1; exact ⟨p, _, c, e⟩
    have kB := (Keeps.refl w1).alloc (.cells #[.slice p1 n1 q1] 24)
    go_wp2_with fail
    refine (H2.out _).mono ?_; rintro e w2 ⟨v2, rfl, hv2, k2⟩
    obtain ⟨p2, n2, q2, rfl⟩ : ∃ p n c, v2 = .slice p n c := by obtain ⟨p, c, e, _⟩ := At.of_own hv2; exact ⟨p, _, c, e⟩
    have k12 := k1.trans (kB.trans k2)
    obtain ⟨hc2, hf2⟩ := k12.both
    have hs1 := k1.size
    have hR := (OwnR.mk1 hv1 hs1 k2 (by simpa using hv2))
    go_wp2_with fail
    refine bodyPost_ret (v := .tuple #[.agg #[.slice (some ⟨w1.heap.size, 0, none⟩) 1 1, .slice p2 n2 q2], .int .i64 0]) (by simp [results, Tryz.results59, go_sem, hc2]) rfl ?_
    exact ⟨_, _, rfl, ((hR.setBelow hB _).setBelow hB _).mono (by simp), ((kA.trans k12).setCell (Nat.le_refl _) _).setCell (Nat.le_refl _) _⟩
  · have e1 : visP n = [] := by simp [visP, h1, h2]
    have e2 : visC n = [] := by simp [visC, h1, h2]
    have e3 : visE n = 2 := by simp [visE, h1, h2]
    rw [e1, e2, e3]
    clear e1 e2 e3 g1 g2 g3 g4
    have d1 : (n == 1) = false := by simp [h1]
    have d2 : (n == 2) = false := by simp [h2]
    go_enter Tryz.func59, Tryz.ntmps59
    go_wp2_with fail
    refine bodyPost_ret (v := .tuple #[.agg #[.slice none 0 0, .slice none 0 0], .int .i64 2]) (by simp [results, Tryz.results59, go_sem]) rfl ?_
    refine ⟨_, _, rfl, OwnR.nil _ _, ?_⟩
    first | exact kA | exact (kA.setCell (Nat.le_refl _) _).setCell (Nat.le_refl _) _
theorem vis_len (n : Int) : (visP n).length ≤ 1000 ∧ tot (visP n) + (visC n).length ≤ 1000 := by
  unfold visP visC
  split
  · decide +kernel
  · split <;> decide +kernel
end Go.Proofs.YtodeecmhcfbheaaGreat
