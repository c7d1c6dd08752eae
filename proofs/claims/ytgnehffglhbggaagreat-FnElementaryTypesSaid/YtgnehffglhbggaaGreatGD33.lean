/- Draws of sequents. -/
import Derived.Test.YtgnehffglhbggaaGreatGD30
import Derived.Test.YtgnehffglhbggaaGreatGXB
import Derived.Deep.CutBlock
import Derived.Deep.DeepCutAuto
import Derived.Test.YtgnehffglhbggaaGreatGBase
import Derived.Deep.RegionHeld3
import Derived.Laws.Tables
namespace Go.Proofs.YtgnehffglhbggaaGreat
open Go.RowKit
theorem BoxG.dr {w w' : World} {r B : Nat} {T : TypeId} {cs : List Value} (h : BoxG w r T cs) (k : Dr B w w') (hB : B < r) : BoxG w' r T cs := own_touch h k.1 (fun i hi e => by
  have : r = i := by simpa [Value.ownBlock] using hi
  omega)
theorem Dr.besideX {B g : Nat} {a b c : World} (h : Dr B a b) (k : Touch b c (fun i => i = g)) (hg : B < g) (ha : a.heap.size ≤ g) : Dr B a c := by
  have hs : Src c B := by
    obtain ⟨v, n, x, hh, c0, c1, c2, f1, f2, hx, p, cap, e, q1, q2, q3⟩ := h.2
    have hBl := World.block_lt_of_cell? _ _ c0
    have kc := k.cell hBl (show ¬ B = g by omega)
    refine ⟨v, n, x, hh, by rw [kc.1]; exact c0, by rw [kc.1]; exact c1, by rw [kc.1]; exact c2, by rw [kc.2]; exact f1, by rw [kc.2]; exact f2, hx, p, cap, e, q1, q2, fun j hj => ?_⟩
    obtain ⟨b', off, y, e2, hc, hy, hb⟩ := q3 j hj
    exact ⟨b', off, y, e2, by rw [(k.cell (b := b') (World.block_lt_of_cell? _ _ hc) (by omega)).1]; exact hc, hy, hb⟩
  refine ⟨⟨k.os.trans h.1.os, k.tape.trans h.1.tape, k.output.trans h.1.output, Nat.le_trans h.1.size k.size, fun i hi hn => ?_⟩, hs⟩
  rw [k.block i (Nat.lt_of_lt_of_le hi h.1.size) (by omega)]
  exact h.1.block i hi hn
theorem Dr.box {a b : World} {B r i : Nat} {T : TypeId} {cs : List Value} {x : Value} (h : Dr B a b) (hb : BoxG b r T cs) (hB : B < r) (ha : a.heap.size ≤ r) : Dr B a (b.setCell ⟨r, i, none⟩ x) :=
  h.besideX (g := r) ((Touch.grown (hb.grown i x)).mono (fun k e => by injection e)) hB ha
theorem SideD.boxed {m : Nat} {w : World} {b r i : Nat} {v x : Value} {T : TypeId} {cs : List Value} (h : SideD m w b v) (hb : BoxG w r T cs) (t : T ≠ 9) : SideD m (w.setCell ⟨r, i, none⟩ x) b v := by
  obtain ⟨y, n, c, ss, e, h1, h2⟩ := h
  exact ⟨y, n, c, ss, e, own_boxed h1 hb t, h2⟩
theorem BoxG.apart {w : World} {r r' i : Nat} {T T' : TypeId} {cs ds : List Value} {x : Value} (h : BoxG w r T cs) (h' : BoxG w r' T' ds) (hne : r ≠ r') : BoxG (w.setCell ⟨r', i, none⟩ x) r T cs :=
  own_touch h (Touch.grown (h'.grown i x)) (fun j e hi => by
    have e1 : r = j := by simpa [Value.ownBlock] using e
    have e2 : j = r' := by simpa using hi
    omega)
theorem SideD.of {m : Nat} {w : World} {B : Nat} {v : Value} {ss : List ByteArray} (h : OwnS w B v ss) (h0 : 0 < ss.length) (hl : ss.length ≤ m) (hz : ∀ s ∈ ss, s.size ≤ 200) : SideD m w B v := by
  rcases h.2 with ⟨_, e⟩ | ⟨g, cap, cur, rfl, _⟩
  · omega
  · exact ⟨g, _, cap, ss, rfl, h, hl, hz⟩
theorem Dr.row {a b c : World} {B g : Nat} {row : Option Nat} (h : Dr B a b) (k : b.grownBy c row) (hr : row = some g) (hB : B < g) (ha : a.heap.size ≤ g) : Dr B a c :=
  h.besideX (g := g) ((Touch.grown k).mono (fun k e => by rw [hr] at e; injection e)) hB ha
/-- a drawn sequent -/
def SeqD (B : Nat) (w : World) (e : Ending) (w' : World) : Prop := ∃ x y, e = .returned (.agg #[x, y]) ∧ SideD 4 w' w.heap.size x ∧ SideD 4 w' w.heap.size y ∧ Dr B w w'
theorem SideD.shape {m : Nat} {w : World} {b : Nat} {v : Value} (h : SideD m w b v) : ∃ p n c, v = .slice p n c := by
  obtain ⟨y, n, c, ss, e, _⟩ := h
  exact ⟨_, n, c, e⟩
--
set_option maxRecDepth 20000 in
set_option maxHeartbeats 4000000 in
theorem l11Sequent_any (B : Nat) (w : World) (hs : Src w B) : Calls Tryz.prog 95 #[.pointer (some ⟨B, 0, none⟩)] w (SeqD B w) := by
  have kA := (Keeps.refl w).alloc (.cells #[.slice none 0 0, .slice none 0 0] 29)
  have hb := BoxG.made w 29 [.slice none 0 0, .slice none 0 0] (by simp) (by simp)
  have d0 := Dr.of hs kA
  have hB := hs.lt
  have hz0 : (w.alloc (.cells #[.slice none 0 0, .slice none 0 0] 29)).heap.size = w.heap.size + 1 := by simp
  have H1 := hid (l11Drawn_any B _ d0.2)
  go_enter Tryz.func95, Tryz.ntmps95
  go_wp2_with fail
  refine H1.out.mono ?_; rintro e w1 ⟨v1, rfl, hx, d1⟩
  have H2 := hid (l11Drawn_any B w1 d1.2)
  have hB1 := d1.2.lt
  have hw1 := d1.size
  rw [hz0] at hx hw1
  have hb1 := hb.dr d1 (by omega)
  have D1 := d0.trans d1
  obtain ⟨p1, n1, c1, e1⟩ := hx.shape
  subst e1
  clear hb d0 d1 kA
  go_wp2_with fail
  refine H2.out.mono ?_; rintro e w2 ⟨v2, rfl, hy, d2⟩
  have hw2 := d2.size
  have hb2 := hb1.dr d2 (by omega)
  have hx2 := hx.dr d2 (by omega)
  have D2 := D1.trans d2
  obtain ⟨b1, m1, q1, ss, ex, ho1, hl1, hz1⟩ := hx2
  obtain ⟨b2, m2, q2, tt, rfl, ho2, hl2, hz2⟩ := hy
  simp only [Value.slice.injEq] at ex
  obtain ⟨rfl, rfl, rfl⟩ := ex
  obtain ⟨b0, m0, q0, ss0, ex0, ho0, _⟩ := hx
  simp only [Value.slice.injEq, Option.some.injEq, Addr.mk.injEq] at ex0
  obtain ⟨⟨rfl, -, -⟩, rfl, rfl⟩ := ex0
  have hlt1 : b1 < w1.heap.size := (ho0.len b1 rfl).2
  have hge1 : w.heap.size + 1 ≤ b1 := (ho0.len b1 rfl).1
  have hge2 : w1.heap.size ≤ b2 := (ho2.len b2 rfl).1
  clear ho0 hb1 d2 D1
  have kC := (Keeps.refl w2).alloc (.cells #[.slice (some ⟨b1, 0, none⟩) n1 c1, .slice (some ⟨b2, 0, none⟩) m2 q2] 29)
  have hc := BoxG.made w2 29 [.slice (some ⟨b1, 0, none⟩) n1 c1, .slice (some ⟨b2, 0, none⟩) m2 q2] (by simp) (by simp)
  have D3 := D2.keeps kC
  have hb3 := hb2.keeps kC
  have ho3 := ho1.keeps kC
  have hp3 := ho2.keeps kC
  have hw3 : w2.heap.size < (w2.alloc (.cells #[.slice (some ⟨b1, 0, none⟩) n1 c1, .slice (some ⟨b2, 0, none⟩) m2 q2] 29)).heap.size := by simp
  have HZ1 := hid hz1
  have HZ2 := hid hz2
  clear hz1 hz2 ho1 ho2 hb2 D2 hz0
  go_wp2_with fail
  refine (l01Next_any 30 B _ D3.2 (by omega)).mono ?_; rintro e w4 ⟨r4, rfl, hr4, d4⟩
  have D4 := D3.trans d4
  have hw4 := d4.size
  have hc4 := hc.dr d4 (by omega)
  have hb4 := hb3.dr d4 (by omega)
  have ho4 := ho3.drX d4 (by omega)
  have hp4 := hp3.drX d4 (by omega)
  clear hc hb3 ho3 hp3 d4 D3 kC
  have HB4 := hid hb4
  have fin : ∀ (wz : World) (x y : Value), BoxG wz w.heap.size 29 [.slice none 0 0, .slice none 0 0] → BoxG wz w2.heap.size 29 [x, y] → SideD 4 wz w.heap.size x → SideD 4 wz w.heap.size y → Dr B w wz →
      (wz.cell? ⟨w.heap.size, 0, none⟩ = some (.slice none 0 0) ∧ wz.cell? ⟨w.heap.size, 1, none⟩ = some (.slice none 0 0) ∧ wz.frozen? ⟨w.heap.size, 0, none⟩ = false ∧ wz.frozen? ⟨w.heap.size, 1, none⟩ = false ∧ wz.cell? ⟨w2.heap.size, 0, none⟩ = some x ∧ wz.cell? ⟨w2.heap.size, 1, none⟩ = some y) ∧
      SeqD B w (.returned (.agg #[x, y])) ((wz.setCell ⟨w.heap.size, 0, none⟩ x).setCell ⟨w.heap.size, 1, none⟩ y) ∧ ((wz.setCell ⟨w.heap.size, 0, none⟩ x).setCell ⟨w.heap.size, 1, none⟩ y).cell? ⟨w.heap.size, 0, none⟩ = some x ∧ ((wz.setCell ⟨w.heap.size, 0, none⟩ x).setCell ⟨w.heap.size, 1, none⟩ y).cell? ⟨w.heap.size, 1, none⟩ = some y := by
    intro wz x y hb hc hx hy D
    have hb1 := hb.set 0 x
    have hb2 := hb1.set 1 y
    refine ⟨⟨hb.cell 0 (by simp), hb.cell 1 (by simp), hb.froz 0, hb.froz 1, hc.cell 0 (by simp), hc.cell 1 (by simp)⟩, ⟨x, y, rfl, (hx.boxed hb (by decide)).boxed hb1 (by decide), (hy.boxed hb (by decide)).boxed hb1 (by decide), (D.box hb (by omega) (Nat.le_refl _)).box hb1 (by omega) (Nat.le_refl _)⟩, hb2.cell 0 (by simp), hb2.cell 1 (by simp)⟩
  have HFIN := hid fin
  clear fin
  by_cases h0 : r4 = 0
  · subst h0
    have hc0 := hc4.cell 0 (by simp)
    simp only [List.getElem_cons_zero] at hc0
    have ka := (Keeps.refl w4).alloc (.cells #[.string ⟨#[70]⟩] 9)
    have hoa := ho4.keeps ka
    have hca := hc4.keeps ka
    go_upto_region 7 with (at_builtin; refine appS rfl _ _ rfl (w.heap.size + 1) (.slice (some ⟨b1, 0, none⟩) n1 c1) ss rfl hoa _ [⟨#[70]⟩] rfl (Strs.lit1 w4 ⟨#[70]⟩) (by simp; omega) (by simp; omega) ?_; intro v7 w7 hv7 hg7 hr7; have hcz := hca.other hoa (by decide) hg7; have z0 := hcz.cell 0 (by simp); have zf := hcz.froz 0; simp only [List.getElem_cons_zero] at z0; obtain ⟨p7, q7, rfl, hq7, hx7, -⟩ := At.of_own hv7; simp only [List.length_append, List.length_cons, List.length_nil, Nat.zero_add] at hv7 hq7 ⊢)
    have hbz := ((HB4.out.keeps ka).other hoa (by decide) hg7).apart (i := 0) (x := (Value.slice p7 (ss.length + 1) q7)) hcz (by omega)
    have hown : OwnS w7 (w.heap.size + 1) (Value.slice p7 (ss.length + 1) q7) (ss ++ [⟨#[70]⟩]) := hv7
    have hside := (SideD.of hown (by simp) (by simp; omega) (fun s h => by rcases List.mem_append.1 h with h | h; exact HZ1.out s h; simp at h; subst h; decide) : SideD 4 w7 (w.heap.size + 1) (Value.slice p7 (ss.length + 1) q7)).boxed (i := 0) (x := (Value.slice p7 (ss.length + 1) q7)) hcz (by decide)
    have hoth : OwnS w7 w1.heap.size _ tt := own_touch (hp4.keeps ka) (Touch.grown hg7) (fun i e hi => by
      have e1 : b2 = i := by simpa [Value.ownBlock] using e
      have e2 : i = b1 := by simpa [Value.ownBlock] using hi
      omega)
    have hoside := (show SideD 4 w7 w1.heap.size _ from ⟨_, _, _, _, rfl, hoth, by omega, HZ2.out⟩).boxed (i := 0) (x := (Value.slice p7 (ss.length + 1) q7)) hcz (by decide)
    have hdr := ((D4.keeps ka).row hg7 rfl (g := b1) (by omega) (by omega)).box (i := 0) (x := (Value.slice p7 (ss.length + 1) q7)) hcz (by omega) (by omega)
    have HF := HFIN.out _ (Value.slice p7 (ss.length + 1) q7) (Value.slice (some ⟨b2, 0, none⟩) m2 q2) hbz (hcz.set 0 (Value.slice p7 (ss.length + 1) q7)) (hside.mono (by omega)) (hoside.mono (by omega)) hdr
    clear hbz hown hside hoth hoside hdr hcz hca hoa ka hv7 hg7 hr7 z0 zf hc0 hc4 ho4 hp4
    generalize w7.setCell ⟨w2.heap.size, 0, none⟩ (Value.slice p7 (ss.length + 1) q7) = wz at *
    obtain ⟨⟨a0, a1, f0, f1, g0, g1⟩, hS, y0, y1⟩ := HF
    have HS := hid hS
    clear hS
    go_wp2_with fail
    refine bodyPost_ret (v := .agg #[(Value.slice p7 (ss.length + 1) q7), (Value.slice (some ⟨b2, 0, none⟩) m2 q2)]) (by simp [results, Tryz.results95, go_sem, y0, y1]) rfl HS.out
  · have h0' : ((r4 : Nat) : Int) ≠ 0 := by omega
    by_cases h1 : r4 = 1
    · subst h1
      have hc0 := hc4.cell 1 (by simp)
      simp only [List.getElem_cons_succ, List.getElem_cons_zero] at hc0
      have ka := (Keeps.refl w4).alloc (.cells #[.string ⟨#[40, 112, 41]⟩] 9)
      have hoa := hp4.keeps ka
      have hca := hc4.keeps ka
      go_upto_region 7 with (at_builtin; refine appS rfl _ _ rfl w1.heap.size (.slice (some ⟨b2, 0, none⟩) m2 q2) tt rfl hoa _ [⟨#[40, 112, 41]⟩] rfl (Strs.lit1 w4 ⟨#[40, 112, 41]⟩) (by simp; omega) (by simp; omega) ?_; intro v7 w7 hv7 hg7 hr7; have hcz := hca.other hoa (by decide) hg7; have z0 := hcz.cell 1 (by simp); have zf := hcz.froz 1; simp only [List.getElem_cons_succ, List.getElem_cons_zero] at z0; obtain ⟨p7, q7, rfl, hq7, hx7, -⟩ := At.of_own hv7; simp only [List.length_append, List.length_cons, List.length_nil, Nat.zero_add] at hv7 hq7 ⊢)
      have hbz := ((HB4.out.keeps ka).other hoa (by decide) hg7).apart (i := 1) (x := (Value.slice p7 (tt.length + 1) q7)) hcz (by omega)
      have hown : OwnS w7 w1.heap.size (Value.slice p7 (tt.length + 1) q7) (tt ++ [⟨#[40, 112, 41]⟩]) := hv7
      have hside := (SideD.of hown (by simp) (by simp; omega) (fun s h => by rcases List.mem_append.1 h with h | h; exact HZ2.out s h; simp at h; subst h; decide) : SideD 4 w7 w1.heap.size (Value.slice p7 (tt.length + 1) q7)).boxed (i := 1) (x := (Value.slice p7 (tt.length + 1) q7)) hcz (by decide)
      have hoth : OwnS w7 (w.heap.size + 1) _ ss := own_touch (ho4.keeps ka) (Touch.grown hg7) (fun i e hi => by
        have e1 : b1 = i := by simpa [Value.ownBlock] using e
        have e2 : i = b2 := by simpa [Value.ownBlock] using hi
        omega)
      have hoside := (show SideD 4 w7 (w.heap.size + 1) _ from ⟨_, _, _, _, rfl, hoth, by omega, HZ1.out⟩).boxed (i := 1) (x := (Value.slice p7 (tt.length + 1) q7)) hcz (by decide)
      have hdr := ((D4.keeps ka).row hg7 rfl (g := b2) (by omega) (by omega)).box (i := 1) (x := (Value.slice p7 (tt.length + 1) q7)) hcz (by omega) (by omega)
      have HF := HFIN.out _ (Value.slice (some ⟨b1, 0, none⟩) n1 c1) (Value.slice p7 (tt.length + 1) q7) hbz (hcz.set 1 (Value.slice p7 (tt.length + 1) q7)) (hoside.mono (by omega)) (hside.mono (by omega)) hdr
      clear hbz hown hside hoth hoside hdr hcz hca hoa ka hv7 hg7 hr7 z0 zf hc0 hc4 ho4 hp4
      generalize w7.setCell ⟨w2.heap.size, 1, none⟩ (Value.slice p7 (tt.length + 1) q7) = wz at *
      obtain ⟨⟨a0, a1, f0, f1, g0, g1⟩, hS, y0, y1⟩ := HF
      have HS := hid hS
      clear hS
      go_wp2_with fail
      refine bodyPost_ret (v := .agg #[(Value.slice (some ⟨b1, 0, none⟩) n1 c1), (Value.slice p7 (tt.length + 1) q7)]) (by simp [results, Tryz.results95, go_sem, y0, y1]) rfl HS.out
    · have h1' : ((r4 : Nat) : Int) ≠ 1 := by omega
      have HF := HFIN.out w4 (.slice (some ⟨b1, 0, none⟩) n1 c1) (.slice (some ⟨b2, 0, none⟩) m2 q2) HB4.out hc4 (SideD.mono ⟨_, _, _, _, rfl, ho4, by omega, HZ1.out⟩ (by omega)) (SideD.mono ⟨_, _, _, _, rfl, hp4, by omega, HZ2.out⟩ (by omega)) D4
      clear hc4 ho4 hp4
      obtain ⟨⟨a0, a1, f0, f1, g0, g1⟩, hS, y0, y1⟩ := HF
      have HS := hid hS
      clear hS
      go_wp2_with fail
      refine bodyPost_ret (v := .agg #[.slice (some ⟨b1, 0, none⟩) n1 c1, .slice (some ⟨b2, 0, none⟩) m2 q2]) (by simp [results, Tryz.results95, go_sem, y0, y1]) rfl HS.out
end Go.Proofs.YtgnehffglhbggaaGreat
/- A region that draws its order, by facts on its slots: each operation hands a value with its fact on, whatever order is drawn; the last one waits for all. -/
namespace Go.Proofs.YtgnehffglhbggaaGreat
open Go.RowKit
section
variable {P : Program} {md : Region.Mode} {ops : Array Oper} {Q : Exit → Act → World → Prop}
def depB (md : Region.Mode) (o : Oper) (j : Nat) : Bool := o.after.any fun e => Region.binds md e && e.on == j
def dstB (ops : Array Oper) (j d : Nat) : Bool := (ops[j]?).bind (·.dst) == some d
/-- what is asked of the operations' lay-out -/
def layB (md : Region.Mode) (ops : Array Oper) (L nt : Nat) (ins : List Nat) : Bool :=
  ops.size == L + 1 && ((List.range (L + 1)).all fun i => match ops[i]? with
    | some o => o.guard.isNone && o.after.all (fun e => !Region.binds md e || decide (e.on < i)) &&
        (if i == L then (List.range L).all (fun j => depB md o j) else match o.dst with
          | some d => decide (d < nt) && !ins.contains d && (List.range L).all (fun j => j == i || !dstB ops j d)
          | none => false)
    | none => false)
def StepOk (P : Program) (md : Region.Mode) (ops : Array Oper) (Q : Exit → Act → World → Prop) (nt : Nat) (ins : List Nat) (V : Nat → Value → World → Prop) (R : World → World → Prop) (J : World → Prop) (o : Oper) : Prop :=
  ∀ (a : Act) (w : World) (K : Act → World → Prop), a.tmps.size = nt → J w → (∀ s, ins.contains s = true → V s (a.eval (.tmp s)) w) → (∀ j d, depB md o j = true → dstB ops j d = true → V d (a.eval (.tmp d)) w) →
    (∀ v w', R w w' → (∀ d, o.dst = some d → V d v w') → K (a.put o.dst v) w') → Oper.wp P o a w K Q
def LastOk (P : Program) (ops : Array Oper) (Q : Exit → Act → World → Prop) (L nt : Nat) (ins : List Nat) (V : Nat → Value → World → Prop) (J : World → Prop) (o : Oper) : Prop :=
  ∀ (a : Act) (w : World) (K : Act → World → Prop), a.tmps.size = nt → a.defers = [] → J w → (∀ s, ins.contains s = true → V s (a.eval (.tmp s)) w) → (∀ j d, j < L → dstB ops j d = true → V d (a.eval (.tmp d)) w) →
    (∀ a' w', Q .normal a' w' → K a' w') → Oper.wp P o a w K Q
def stepsOk (F G : Oper → Prop) (L : Nat) : Nat → List Oper → Prop
  | _, [] => True
  | i, o :: l => (if i = L then G o else F o) ∧ stepsOk F G L (i + 1) l
theorem stepsOk_get {F G : Oper → Prop} {L : Nat} : ∀ (l : List Oper) (k i : Nat) (o : Oper), stepsOk F G L k l → l[i]? = some o → if k + i = L then G o else F o
  | [], _, _, _, _, h => by simp at h
  | x :: l, k, 0, o, h, e => by
    simp at e
    subst e
    exact h.1
  | x :: l, k, i + 1, o, h, e => by
    have := stepsOk_get l (k + 1) i o h.2 (by simpa using e)
    rwa [show k + 1 + i = k + (i + 1) by omega] at this
theorem getD_tf {listed : Array Bool} {i : Nat} (h : i < listed.size) : listed.getD i true = listed.getD i false := by
  simp [Array.getD, h]
theorem wpAny_listed (fuel : Nat) (listed : Array Bool) (a : Act) (w : World) (h : ∀ j, j < ops.size → listed.getD j true = true) (hQ : Q .normal a w) : wpAny P md ops Q fuel listed a w := by
  have hr : Region.ready md ops listed = [] := by
    rw [List.eq_nil_iff_forall_not_mem]
    intro j hj
    obtain ⟨h1, o, ho, _⟩ := mem_ready.1 hj
    rw [h j (Array.getElem?_eq_some_iff.1 ho).1] at h1
    cases h1
  cases fuel with
  | zero => exact ⟨hr, hQ⟩
  | succ n => exact ⟨fun _ => hQ, fun i hi => by rw [hr] at hi; cases hi⟩
theorem filter_less {p q : Nat → Bool} : ∀ (l : List Nat), (∀ x, p x = true → q x = true) → (∃ x ∈ l, q x = true ∧ p x = false) → (l.filter p).length < (l.filter q).length
  | [], _, ⟨x, h, _⟩ => by cases h
  | y :: l, hpq, hx => by
    have hle : ∀ l : List Nat, (l.filter p).length ≤ (l.filter q).length := by
      intro l
      induction l with
      | nil => simp
      | cons z l ih =>
        rw [List.filter_cons, List.filter_cons]
        cases hp : p z
        · cases q z <;> simp <;> omega
        · rw [hpq z hp]; simp; omega
    obtain ⟨x, hm, h1, h2⟩ := hx
    rw [List.filter_cons, List.filter_cons]
    rcases List.mem_cons.1 hm with rfl | hm
    · rw [h1, h2]
      have := hle l
      simp; omega
    · have ih := filter_less l hpq ⟨x, hm, h1, h2⟩
      cases hp : p y
      · cases q y <;> simp <;> omega
      · rw [hpq y hp]; simp; omega
theorem put_get (a : Act) (d : Nat) (v : Value) (h : d < a.tmps.size) : (a.put (some d) v).eval (.tmp d) = v := by
  simp [Act.put, Act.eval, h]
theorem put_ne (a : Act) (d s : Nat) (v : Value) (h : s ≠ d) : (a.put (some d) v).eval (.tmp s) = a.eval (.tmp s) := by
  simp only [Act.put, Act.eval, Array.getD_eq_getD_getElem?]
  rw [Array.getElem?_setIfInBounds_ne (Ne.symm h)]
theorem put_size (a : Act) (d : Option Nat) (v : Value) : (a.put d v).tmps.size = a.tmps.size := by
  cases d <;> simp [Act.put]
theorem put_defers (a : Act) (d : Option Nat) (v : Value) : (a.put d v).defers = a.defers := by
  cases d <;> simp [Act.put]
theorem wpAny_slots {L nt : Nat} {ins : List Nat} (hlay : layB md ops L nt ins = true) (V : Nat → Value → World → Prop) (R : World → World → Prop) (hst : ∀ s v w w', R w w' → V s v w → V s v w') (J : World → Prop) (hJ : ∀ w w', R w w' → J w → J w')
    (hs : stepsOk (StepOk P md ops Q nt ins V R J) (LastOk P ops Q L nt ins V J) L 0 ops.toList) :
    ∀ (fuel : Nat) (listed : Array Bool) (a : Act) (w : World), listed.size = L + 1 → listed.getD L false = false → ((List.range (L + 1)).filter fun i => !listed.getD i false).length ≤ fuel → a.tmps.size = nt → a.defers = [] → J w →
      (∀ s, ins.contains s = true → V s (a.eval (.tmp s)) w) → (∀ j d, j < L → listed.getD j false = true → dstB ops j d = true → V d (a.eval (.tmp d)) w) → wpAny P md ops Q fuel listed a w := by
  unfold layB at hlay
  rw [Bool.and_eq_true, beq_iff_eq, List.all_eq_true] at hlay
  obtain ⟨hsz, hall⟩ := hlay
  have hop : ∀ i o, ops[i]? = some o → i < L + 1 ∧ o.guard = none ∧ (∀ e ∈ o.after, Region.binds md e = true → e.on < i) ∧ (if i = L then ∀ j, j < L → depB md o j = true else ∃ d, o.dst = some d ∧ d < nt ∧ ins.contains d = false ∧ ∀ j, j < L → j ≠ i → dstB ops j d = false) := by
    intro i o ho
    have hi : i < L + 1 := by rw [← hsz]; exact (Array.getElem?_eq_some_iff.1 ho).1
    have h := hall i (List.mem_range.2 hi)
    rw [ho] at h
    simp only [Bool.and_eq_true] at h
    obtain ⟨⟨h1, h2⟩, h3⟩ := h
    refine ⟨hi, by simpa using h1, fun e he hb => ?_, ?_⟩
    · rw [Array.all_eq_true_iff_forall_mem] at h2
      have := h2 e he
      rw [hb] at this
      simpa using this
    · by_cases hiL : i = L
      · subst hiL
        rw [if_pos rfl]
        simp only [beq_self_eq_true, if_true, List.all_eq_true] at h3
        exact fun j hj => h3 j (List.mem_range.2 hj)
      · rw [if_neg hiL]
        rw [if_neg (by simpa using hiL)] at h3
        cases hd : o.dst with
        | none => rw [hd] at h3; simp at h3
        | some d =>
          rw [hd] at h3
          simp only [Bool.and_eq_true, decide_eq_true_eq, Bool.not_eq_true', List.all_eq_true, Bool.or_eq_true, beq_iff_eq] at h3
          exact ⟨d, rfl, h3.1.1, h3.1.2, fun j hj hne => (h3.2 j (List.mem_range.2 hj)).resolve_left hne⟩
  have hget : ∀ i o, ops[i]? = some o → if i = L then LastOk P ops Q L nt ins V J o else StepOk P md ops Q nt ins V R J o := by
    intro i o ho
    have := stepsOk_get ops.toList 0 i o hs (by simpa using ho)
    rwa [Nat.zero_add] at this
  intro fuel
  induction fuel with
  | zero =>
    intro listed a w hls hL hf
    have : L ∈ (List.range (L + 1)).filter fun i => !listed.getD i false := List.mem_filter.2 ⟨List.mem_range.2 (by omega), by rw [hL]; rfl⟩
    have := List.length_pos_of_mem this
    omega
  | succ fuel ih =>
    intro listed a w hls hL hf hsa hdf hJw hins hheld
    have hex : ∀ n i, i ≤ n → i ≤ L → listed.getD i false = false → ∃ j, j ∈ Region.ready md ops listed := by
      intro n
      induction n with
      | zero =>
        intro i hi hiL hlf
        have ho : ops[i]? = some ops[i] := Array.getElem?_eq_getElem (by omega)
        refine ⟨i, mem_ready.2 ⟨by rw [getD_tf (by omega)]; exact hlf, _, ho, fun e he hb => ?_⟩⟩
        have := (hop i _ ho).2.2.1 e he hb
        omega
      | succ n ihn =>
        intro i hi hiL hlf
        have ho : ops[i]? = some ops[i] := Array.getElem?_eq_getElem (by omega)
        by_cases hall2 : ∀ e ∈ ops[i].after, Region.binds md e = true → listed.getD e.on false = true
        · exact ⟨i, mem_ready.2 ⟨by rw [getD_tf (by omega)]; exact hlf, _, ho, hall2⟩⟩
        · simp only [Classical.not_forall] at hall2
          obtain ⟨e, he, hb, hn⟩ := hall2
          have hlt := (hop i _ ho).2.2.1 e he hb
          exact ihn e.on (by omega) (by omega) (by simpa using hn)
    refine ⟨fun h0 => ?_, fun i hi => ?_⟩
    · obtain ⟨j, hj⟩ := hex L L (Nat.le_refl _) (Nat.le_refl _) hL
      rw [h0] at hj
      cases hj
    · obtain ⟨hlt, o, ho, hdep⟩ := mem_ready.1 hi
      obtain ⟨hiL, hg, hbk, hlay2⟩ := hop i o ho
      have hun : listed.getD i false = false := by rw [← getD_tf (by omega)]; exact hlt
      refine wpOp_step ho (fun K' hK => ?_)
      rw [if_pos (by simp [Region.wanted, hg])]
      have hG := hget i o ho
      by_cases he : i = L
      · rw [if_pos he] at hG hlay2
        refine hG a w K' hsa hdf hJw hins (fun j d hj hd => ?_) (fun a' w' hq => hK a' w' ?_)
        · have h1 := hlay2 j hj
          unfold depB at h1
          rw [Array.any_eq_true'] at h1
          obtain ⟨e, he1, hb⟩ := h1
          rw [Bool.and_eq_true, beq_iff_eq] at hb
          have := hdep e he1 hb.1
          rw [hb.2] at this
          exact hheld j d hj this hd
        · refine wpAny_listed _ _ _ _ (fun j hj => ?_) hq
          by_cases hji : j = i
          · subst hji
            simp [Array.getD, hls, hiL]
          · rw [getD_set_ne true (Ne.symm hji)]
            have h1 := hlay2 j (by omega)
            unfold depB at h1
            rw [Array.any_eq_true'] at h1
            obtain ⟨e, he1, hb⟩ := h1
            rw [Bool.and_eq_true, beq_iff_eq] at hb
            have := hdep e he1 hb.1
            rw [hb.2] at this
            rw [getD_tf (by omega)]
            exact this
      · rw [if_neg he] at hG hlay2
        obtain ⟨d, hd, hdn, hdi, hdu⟩ := hlay2
        refine hG a w K' hsa hJw hins (fun j d' hj hd' => ?_) (fun v w' hR hV => hK _ _ ?_)
        · unfold depB at hj
          rw [Array.any_eq_true'] at hj
          obtain ⟨e, he1, hb⟩ := hj
          rw [Bool.and_eq_true, beq_iff_eq] at hb
          have h1 := hdep e he1 hb.1
          have h2 := hbk e he1 hb.1
          rw [hb.2] at h1 h2
          exact hheld j d' (by omega) h1 hd'
        · rw [hd]
          have hVd := hV d hd
          have hsd : d < a.tmps.size := by rw [hsa]; exact hdn
          refine ih (listed.setIfInBounds i true) (a.put (some d) v) w' (by simpa using hls) (by rw [getD_set_ne false he]; exact hL) ?_ (by rw [put_size]; exact hsa) (by rw [put_defers]; exact hdf) (hJ _ _ hR hJw) (fun s hs => ?_) (fun j d' hj hl hd' => ?_)
          · have : ((List.range (L + 1)).filter fun k => !(listed.setIfInBounds i true).getD k false).length < ((List.range (L + 1)).filter fun k => !listed.getD k false).length := by
              refine filter_less _ (fun k hk => ?_) ⟨i, List.mem_range.2 hiL, by rw [hun]; rfl, ?_⟩
              · by_cases hki : i = k
                · subst hki; rw [hun]; rfl
                · rwa [getD_set_ne false hki] at hk
              · simp [Array.getD, hls, hiL]
            omega
          · have hne : s ≠ d := fun e => by rw [e, hdi] at hs; cases hs
            rw [put_ne a d s v hne]
            exact hst _ _ _ _ hR (hins s hs)
          · by_cases hji : j = i
            · subst hji
              have : d' = d := by
                unfold dstB at hd'
                rw [ho] at hd'
                simp [hd] at hd'
                exact hd'.symm
              subst this
              rw [put_get a d' v hsd]
              exact hVd
            · have hne : d' ≠ d := fun e => by
                subst e
                rw [hdu j hj hji] at hd'
                cases hd'
              rw [put_ne a d d' v hne]
              rw [getD_set_ne false (Ne.symm hji)] at hl
              exact hst _ _ _ _ hR (hheld j d' hj hl hd')
theorem wp_region_slots {id : Nat} {a : Act} {w : World} {L nt : Nat} {ins : List Nat} (hm : P.follows .mixedOrders = true) (hlay : layB .any ops L nt ins = true) (V : Nat → Value → World → Prop) (R : World → World → Prop) (hst : ∀ s v w w', R w w' → V s v w → V s v w') (J : World → Prop) (hJ : ∀ w w', R w w' → J w → J w')
    (hs : stepsOk (StepOk P .any ops Q nt ins V R J) (LastOk P ops Q L nt ins V J) L 0 ops.toList) (hsa : a.tmps.size = nt) (hdf : a.defers = []) (hJw : J w.drew) (hins : ∀ s, ins.contains s = true → V s (a.eval (.tmp s)) w.drew) : (Code.region id ops true).wp P Q a w := by
  refine wp_region_any hm (wpAny_slots hlay V R hst J hJ hs _ _ _ _ ?_ ?_ ?_ hsa hdf hJw hins (fun j d hj hl => ?_))
  · unfold layB at hlay
    rw [Bool.and_eq_true, beq_iff_eq] at hlay
    simp [hlay.1]
  · simp [Array.getD]
  · have hsz : ops.size = L + 1 := by
      unfold layB at hlay
      rw [Bool.and_eq_true, beq_iff_eq] at hlay
      exact hlay.1
    rw [hsz]
    exact Nat.le_trans (List.length_filter_le _ _) (by simp)
  · simp [Array.getD] at hl
end
end Go.Proofs.YtgnehffglhbggaaGreat
/- Kinds of slots in draws, and the operations that hand them on, whatever order is drawn. -/
namespace Go.Proofs.YtgnehffglhbggaaGreat
open Go.RowKit
inductive Kd where
  | src | box (r : Nat) | names (nm : List ByteArray) | rnd (m : Nat) | ptr | txt4 | fm (k : Nat) | str | one | side | seq | any
def Kd.holds (B base : Nat) : Kd → Value → World → Prop
  | .src, v, _ => v = .pointer (some ⟨B, 0, none⟩)
  | .box r, v, _ => v = .pointer (some ⟨r, 0, none⟩)
  | .names nm, v, w => ∃ g, v = .slice (some ⟨g, 0, none⟩) nm.length nm.length ∧ B < g ∧ g < w.heap.size ∧ Strs w v nm
  | .rnd m, v, _ => ∃ r : Nat, v = .int .i64 r ∧ r < m
  | .ptr, v, w => ∃ g o, ∃ s : ByteArray, v = .pointer (some ⟨g, o, none⟩) ∧ g ≠ B ∧ g < w.heap.size ∧ w.cell? ⟨g, o, none⟩ = some (.string s) ∧ s.size ≤ 4
  | .txt4, v, _ => ∃ s : ByteArray, v = .string s ∧ s.size ≤ 4
  | .fm k, v, w => ∃ (t : Fm) (b : Nat), t.wf ∧ t.enc.length ≤ k ∧ B < b ∧ OwnN w b v t.enc
  | .str, v, _ => ∃ s : ByteArray, v = .string s ∧ s.size ≤ 200
  | .one, v, w => ∃ (g : Nat) (s : ByteArray), v = .slice (some ⟨g, 0, none⟩) 1 1 ∧ OwnS w base v [s] ∧ s.size ≤ 200
  | .side, v, w => SideD 4 w base v
  | .seq, v, w => ∃ x y, v = .agg #[x, y] ∧ SideD 4 w base x ∧ SideD 4 w base y
  | .any, _, _ => True
theorem Kd.dr {B base : Nat} (hB : B < base) {w w' : World} (h : Dr B w w') : ∀ {k : Kd} {v : Value}, k.holds B base v w → k.holds B base v w'
  | .src, _, hv => hv
  | .box _, _, hv => hv
  | .rnd _, _, hv => hv
  | .txt4, _, hv => hv
  | .str, _, hv => hv
  | .any, _, hv => hv
  | .names nm, v, ⟨g, e, h1, h2, h3⟩ => ⟨g, e, h1, Nat.lt_of_lt_of_le h2 h.size, by subst e; exact h3.dr h (by omega) h2⟩
  | .ptr, v, ⟨g, o, s, e, h1, h2, h3, h4⟩ => ⟨g, o, s, e, h1, Nat.lt_of_lt_of_le h2 h.size, by rw [(h.1.cell h2 h1).1]; exact h3, h4⟩
  | .fm k, v, ⟨t, b, h1, h2, h3, h4⟩ => ⟨t, b, h1, h2, h3, h4.dr h h3⟩
  | .one, v, ⟨g, s, e, h1, h2⟩ => ⟨g, s, e, h1.drX h hB, h2⟩
  | .side, v, hv => SideD.dr hv h hB
  | .seq, v, ⟨x, y, e, h1, h2⟩ => ⟨x, y, e, h1.dr h hB, h2.dr h hB⟩
structure JD (B base r0 : Nat) (w0 w : World) : Prop where
  d0 : Dr B w0 w
  src : Src w B
  sz : base ≤ w.heap.size
  hB : B < base
  hr : base ≤ r0
  box : BoxG w r0 29 [.slice none 0 0, .slice none 0 0]
theorem JD.dr {B base r0 : Nat} {w0 w w' : World} (k : Dr B w w') (h : JD B base r0 w0 w) : JD B base r0 w0 w' :=
  ⟨h.d0.trans k, k.2, Nat.le_trans h.sz k.size, h.hB, h.hr, h.box.dr k (by have := h.hB; have := h.hr; omega)⟩
def availB (md : Region.Mode) (ops : Array Oper) (ins : List Nat) (o : Oper) (s : Nat) : Bool := ins.contains s || (List.range ops.size).any fun j => depB md o j && dstB ops j s
section
variable {md : Region.Mode} {ops : Array Oper} {Q : Exit → Act → World → Prop} {nt : Nat} {ins : List Nat} {kd : Nat → Kd} {B base r0 : Nat} {w0 : World} {o : Oper}
/-- a step of a drawn region of a draw -/
def StD (md : Region.Mode) (ops : Array Oper) (Q : Exit → Act → World → Prop) (nt : Nat) (ins : List Nat) (kd : Nat → Kd) (B base r0 : Nat) (w0 : World) (o : Oper) : Prop :=
  StepOk Tryz.prog md ops Q nt ins (fun s v w => (kd s).holds B base v w) (Dr B) (JD B base r0 w0) o
theorem getV {s : Nat} (h : availB md ops ins o s = true) {V : Nat → Value → World → Prop} {a : Act} {w : World} (hins : ∀ s, ins.contains s = true → V s (a.eval (.tmp s)) w) (hdep : ∀ j d, depB md o j = true → dstB ops j d = true → V d (a.eval (.tmp d)) w) : V s (a.eval (.tmp s)) w := by
  unfold availB at h
  rw [Bool.or_eq_true, List.any_eq_true] at h
  rcases h with h | ⟨j, _, h⟩
  · exact hins s h
  · rw [Bool.and_eq_true] at h
    exact hdep j s h.1 h.2
theorem stMove (s : Nat) (ho : o.op = .move (.tmp s) ∨ o.op = .assign (.tmp s)) (h : availB md ops ins o s = true) (hk : ∀ d, o.dst = some d → kd d = kd s) : StD md ops Q nt ins kd B base r0 w0 o :=
  fun a w K hsa hJ hins hdep hK => by
    have hv := getV h hins hdep
    have := hK (a.eval (.tmp s)) w (Dr.of hJ.src (Keeps.refl w)) (fun d hd => by show (kd d).holds B base _ w; rw [hk d hd]; exact hv)
    unfold Oper.wp execOp
    rcases ho with ho | ho
    · rw [ho]; exact this
    · rw [ho]; exact this
/-- a list of names is laid -/
theorem stNames (nm : List ByteArray) (hn : nm.length ≤ 100) (hrun : ∀ (a : Act) w, (execOp a.eval o).run Tryz.prog w = .ok (.value (.slice (some ⟨w.heap.size, 0, none⟩) nm.length nm.length)) (w.alloc (.cells (nm.map Value.string).toArray 9)))
    (hk : ∀ d, o.dst = some d → kd d = .names nm) : StD md ops Q nt ins kd B base r0 w0 o :=
  fun a w K hsa hJ hins hdep hK => by
    unfold Oper.wp
    rw [hrun]
    have k := (Keeps.refl w).alloc (.cells (nm.map Value.string).toArray 9)
    exact hK _ _ (Dr.of hJ.src k) (fun d hd => by
      show (kd d).holds B base _ _
      rw [hk d hd]
      exact ⟨_, rfl, by have := hJ.sz; have := hJ.hB; omega, by simp, Strs.lit nm (by omega)⟩)
theorem stEmpty (hrun : ∀ (a : Act) w, (execOp a.eval o).run Tryz.prog w = .ok (.value (.slice (some ⟨w.heap.size, 0, none⟩) 0 0)) (w.alloc (.cells #[] 9))) (hk : ∀ d, o.dst = some d → kd d = .side) : StD md ops Q nt ins kd B base r0 w0 o :=
  fun a w K hsa hJ hins hdep hK => by
    unfold Oper.wp
    rw [hrun]
    have k := (Keeps.refl w).alloc (.cells #[] 9)
    exact hK _ _ (Dr.of hJ.src k) (fun d hd => by
      show (kd d).holds B base _ _
      rw [hk d hd]
      exact SideD.mono ⟨_, _, _, [], rfl, OwnS.empty w, by simp, fun x hx => by cases hx⟩ hJ.sz)
theorem run_lit1S (s : ByteArray) (w : World) : (Instr.buildSlice 22 1 #[(0, .string s)]).run Tryz.prog w = .ok (.slice (some ⟨w.heap.size, 0, none⟩) 1 1) (w.alloc (.cells #[.string s] 9)) := by kernel_rfl
/-- a list of one text; kind one, or side -/
theorem stOne (s : Nat) (ho : o.op = .buildSlice 22 1 #[(0, .tmp s)]) (h : availB md ops ins o s = true) (hs : kd s = .str) (hk : ∀ d, o.dst = some d → kd d = .one ∨ kd d = .side) : StD md ops Q nt ins kd B base r0 w0 o :=
  fun a w K hsa hJ hins hdep hK => by
    have hv := getV h hins hdep
    change (kd s).holds B base _ w at hv
    rw [hs] at hv
    obtain ⟨x, e, hx⟩ := hv
    have ke := (Keeps.refl w).alloc (.cells #[.string x] 9)
    have hown : OwnS (w.alloc (.cells #[.string x] 9)) w.heap.size (.slice (some ⟨w.heap.size, 0, none⟩) 1 1) [x] := by
      have h := World.ownsRow_lit (base := w.heap.size) (e := 9) (size := 1) w #[.string x] 1 (Nat.le_refl _) (by simp [maxLen]) (by simp)
      exact h
    have := hK (.slice (some ⟨w.heap.size, 0, none⟩) 1 1) (w.alloc (.cells #[.string x] 9)) (Dr.of hJ.src ke) (fun d hd => by
      show (kd d).holds B base _ _
      rcases hk d hd with e | e <;> rw [e]
      · exact ⟨_, x, rfl, hown.mono hJ.sz, hx⟩
      · exact SideD.mono (m := 4) ⟨_, _, _, _, rfl, hown, by simp, fun y hy => by rw [List.mem_singleton] at hy; subst hy; exact hx⟩ hJ.sz)
    unfold Oper.wp execOp
    simp only [ho]
    have e2 : (#[(0, Operand.tmp s)] : Array (Nat × Operand)).map (fun (i, x) => (i, a.eval x)) = #[(0, .string x)] := by simp [e]
    rw [e2]
    simp only [Sem.run_bind, run_lit1S, Result.andThen_ok]
    exact this
theorem wp_callF {a : Act} {w : World} {K : Act → World → Prop} (f : FuncId) (args : Array Operand) (ats : Array TypeId) (ho : o.op = .call { callee := .value (.func f), args := args, argTypes := ats }) (hE : Enters f) (vs : Array Value) (hvs : args.map a.eval = vs)
    (hc : Calls Tryz.prog f vs w fun e w' => ∃ v, e = .returned v ∧ K (a.put o.dst v) w') : Oper.wp Tryz.prog o a w K Q := by
  unfold Oper.wp execOp
  simp only [ho]
  have e1 : (do let d ← resolve a.eval { callee := .value (.func f), args := args, argTypes := ats } o.type; invoke d.target d.args).run Tryz.prog w = .ok (.enter f vs) w := by
    subst hvs
    have := hE (args.map a.eval) w
    simp only [resolve, Deferred.ofValue, Act.eval, Sem.run_bind, Sem.run_pure, Result.andThen_ok, invoke] at *
    simpa using this
  rw [e1]
  refine Calls.mono hc ?_
  rintro e w' ⟨v, rfl, hk⟩
  exact hk
/-- a number is drawn -/
theorem stNext (n : Nat) (hn : n ≤ 1000000) (h0 : 0 < n) (s : Nat) (ats : Array TypeId) (ho : o.op = .call { callee := .value (.func 91), args := #[.tmp s, .const (.int .i64 n)], argTypes := ats }) (hE : Enters 91) (h : availB md ops ins o s = true) (hs : kd s = .src) (hk : ∀ d, o.dst = some d → kd d = .rnd n) : StD md ops Q nt ins kd B base r0 w0 o :=
  fun a w K hsa hJ hins hdep hK => by
    have hv := getV h hins hdep
    change (kd s).holds B base _ w at hv
    rw [hs] at hv
    have hv : a.eval (.tmp s) = .pointer (some ⟨B, 0, none⟩) := hv
    refine wp_callF _ _ _ ho hE #[.pointer (some ⟨B, 0, none⟩), .int .i64 n] (by simp [hv]; rfl) ((l01Next_any n B w hJ.src (by omega)).mono ?_)
    rintro e w' ⟨r, rfl, hr, d⟩
    exact ⟨_, rfl, hK _ _ d (fun d' hd => by
      show (kd d').holds B base _ _
      rw [hk d' hd]
      exact ⟨r, rfl, by omega⟩)⟩
theorem fm_nds {k : Nat} {v : Value} {w : World} (h : (Kd.fm k).holds B base v w) (hk : k ≤ 100) : ∃ t : Fm, t.wf ∧ t.enc.length ≤ k ∧ Nds w v t.enc := by
  obtain ⟨t, b, h1, h2, _, h4⟩ := h
  exact ⟨t, h1, h2, h4.nds (by omega)⟩
/-- a modality is put ahead -/
theorem stPre (c k : Nat) (hc : c < 2) (hk9 : k ≤ 90) (s : Nat) (ats : Array TypeId) (ho : o.op = .call { callee := .value (.func 135), args := #[.const (.int .i64 (5 + (c : Int))), .tmp s], argTypes := ats }) (hE : Enters 135) (h : availB md ops ins o s = true) (hs : kd s = .fm k) (hk : ∀ d, o.dst = some d → kd d = .fm (k + 1)) : StD md ops Q nt ins kd B base r0 w0 o :=
  fun a w K hsa hJ hins hdep hK => by
    have hv := getV h hins hdep
    change (kd s).holds B base _ w at hv
    rw [hs] at hv
    obtain ⟨t, h1, h2, h3⟩ := fm_nds hv (by omega)
    obtain ⟨z, hz, hzl, okz⟩ := pre_treeW c h1 hc
    have hc2 := l02Pre_any (5 + (c : Int)) t.enc _ w h3 (by omega)
    rw [hz] at hc2
    refine wp_callF _ _ _ ho hE #[.int .i64 (5 + (c : Int)), a.eval (.tmp s)] (by simp; rfl) (hc2.mono ?_)
    rintro e w' ⟨v', rfl, hov, kk⟩
    exact ⟨_, rfl, hK _ _ (Dr.of hJ.src kk) (fun d hd => by
      show (kd d).holds B base _ _
      rw [hk d hd]
      exact ⟨z, w.heap.size, okz, by omega, by have := hJ.hB; have := hJ.sz; omega, hov⟩)⟩
theorem stPair (c k l : Nat) (hc : c < 3) (hk9 : k ≤ 40) (hl9 : l ≤ 40) (s s' : Nat) (ats : Array TypeId) (ho : o.op = .call { callee := .value (.func 134), args := #[.const (.int .i64 (2 + (c : Int))), .tmp s, .tmp s'], argTypes := ats }) (hE : Enters 134) (h : availB md ops ins o s = true) (h' : availB md ops ins o s' = true) (hs : kd s = .fm k) (hs' : kd s' = .fm l) (hk : ∀ d, o.dst = some d → kd d = .fm (k + l + 1)) : StD md ops Q nt ins kd B base r0 w0 o :=
  fun a w K hsa hJ hins hdep hK => by
    have hv := getV h hins hdep
    have hv' := getV h' hins hdep
    change (kd s).holds B base _ w at hv
    change (kd s').holds B base _ w at hv'
    rw [hs] at hv
    rw [hs'] at hv'
    obtain ⟨t, h1, h2, h3⟩ := fm_nds hv (by omega)
    obtain ⟨u, g1, g2, g3⟩ := fm_nds hv' (by omega)
    obtain ⟨z, hz, hzl, okz⟩ := pair_treeW c h1 g1 hc
    have hc2 := l02Pair_any (2 + (c : Int)) t.enc u.enc _ _ w h3 g3 (by omega)
    rw [hz] at hc2
    refine wp_callF _ _ _ ho hE #[.int .i64 (2 + (c : Int)), a.eval (.tmp s), a.eval (.tmp s')] (by simp; rfl) (hc2.mono ?_)
    rintro e w' ⟨v', rfl, hov, kk⟩
    exact ⟨_, rfl, hK _ _ (Dr.of hJ.src kk) (fun d hd => by
      show (kd d).holds B base _ _
      rw [hk d hd]
      exact ⟨z, w.heap.size, okz, by omega, by have := hJ.hB; have := hJ.sz; omega, hov⟩)⟩
theorem stText (k : Nat) (hk4 : k ≤ 40) (s : Nat) (ats : Array TypeId) (ho : o.op = .call { callee := .value (.func 56), args := #[.tmp s], argTypes := ats }) (hE : Enters 56) (h : availB md ops ins o s = true) (hs : kd s = .fm k) (hk : ∀ d, o.dst = some d → kd d = .str) : StD md ops Q nt ins kd B base r0 w0 o :=
  fun a w K hsa hJ hins hdep hK => by
    have hv := getV h hins hdep
    change (kd s).holds B base _ w at hv
    rw [hs] at hv
    obtain ⟨t, h1, h2, h3⟩ := fm_nds hv (by omega)
    refine wp_callF _ _ _ ho hE #[a.eval (.tmp s)] (by simp) ((l02TextA t h1 (by omega) _ w h3).mono ?_)
    rintro e w' ⟨x, rfl, hb, kk⟩
    exact ⟨_, rfl, hK _ _ (Dr.of hJ.src kk) (fun d hd => by
      show (kd d).holds B base _ _
      rw [hk d hd]
      exact ⟨x, rfl, (show IsTx x t from ⟨h1, hb, by omega⟩).small⟩)⟩
theorem stInsert (s s' : Nat) (ats : Array TypeId) (ho : o.op = .call { callee := .value (.func 136), args := #[.tmp s, .tmp s'], argTypes := ats }) (hE : Enters 136) (h : availB md ops ins o s = true) (h' : availB md ops ins o s' = true) (hs : kd s = .one) (hs' : kd s' = .str) (hk : ∀ d, o.dst = some d → kd d = .side) : StD md ops Q nt ins kd B base r0 w0 o :=
  fun a w K hsa hJ hins hdep hK => by
    have hv := getV h hins hdep
    have hv' := getV h' hins hdep
    change (kd s).holds B base _ w at hv
    change (kd s').holds B base _ w at hv'
    rw [hs] at hv
    rw [hs'] at hv'
    obtain ⟨g, x, e1, h1, h2⟩ := hv
    obtain ⟨y, e2, g2⟩ := hv'
    rw [e1] at h1
    refine wp_callF _ _ _ ho hE #[.slice (some ⟨g, 0, none⟩) 1 1, .string y] (by simp [e1, e2]) ((l02InsertS_any [x] g 0 1 1 y base w h1 (by simp) hJ.sz).mono ?_)
    intro e w' hr
    obtain ⟨v, rfl, hside, kk⟩ := SideD.insert hr (m := 1) (by simp) (fun z hz => by rw [List.mem_singleton] at hz; subst hz; exact h2) g2
    exact ⟨_, rfl, hK _ _ (Dr.of hJ.src kk) (fun d hd => by
      show (kd d).holds B base _ _
      rw [hk d hd]
      exact hside.up (by omega))⟩
theorem run_indexS (g n r : Nat) (hr : r < n) (hn : n ≤ 100) (w : World) : (Instr.indexAt 22 (.slice (some ⟨g, 0, none⟩) n n) (.int .i64 (r : Int))).run Tryz.prog w = .ok (.pointer (some ⟨g, r, none⟩)) w := by
  have _ := hn
  simp [Instr.indexAt, go_sem, hr]
theorem stIndex (nm : List ByteArray) (hn : nm.length ≤ 100) (hsz : ∀ s ∈ nm, s.size ≤ 4) (m : Nat) (hm : m ≤ nm.length) (s s' : Nat) (ho : o.op = .indexAddr 22 (.tmp s) (.tmp s')) (h : availB md ops ins o s = true) (h' : availB md ops ins o s' = true) (hs : kd s = .names nm) (hs' : kd s' = .rnd m) (hk : ∀ d, o.dst = some d → kd d = .ptr) : StD md ops Q nt ins kd B base r0 w0 o :=
  fun a w K hsa hJ hins hdep hK => by
    have hv := getV h hins hdep
    have hv' := getV h' hins hdep
    change (kd s).holds B base _ w at hv
    change (kd s').holds B base _ w at hv'
    rw [hs] at hv
    rw [hs'] at hv'
    obtain ⟨g, e1, h1, h2, h3⟩ := hv
    obtain ⟨r, e2, hr⟩ := hv'
    rw [e1] at h3
    obtain ⟨b9, o9, e9, hc⟩ := h3.get r (by omega)
    cases e9
    rw [Nat.zero_add] at hc
    unfold Oper.wp execOp
    simp only [ho, e1, e2, Sem.run_bind, run_indexS g nm.length r (by omega) hn, Result.andThen_ok]
    exact hK _ _ (Dr.of hJ.src (Keeps.refl w)) (fun d hd => by
      show (kd d).holds B base _ _
      rw [hk d hd]
      exact ⟨g, r, _, rfl, by omega, h2, hc, hsz _ (List.getElem_mem _)⟩)
theorem run_loadS (p : Addr) (s : ByteArray) (w : World) (h : w.cell? p = some (.string s)) : (Instr.loadAt 9 (.pointer (some p))).run Tryz.prog w = .ok (.string s) w := by
  simp [Instr.loadAt, go_sem, h]
theorem stLoad (s : Nat) (ho : o.op = .load 9 (.tmp s)) (h : availB md ops ins o s = true) (hs : kd s = .ptr) (hk : ∀ d, o.dst = some d → kd d = .txt4) : StD md ops Q nt ins kd B base r0 w0 o :=
  fun a w K hsa hJ hins hdep hK => by
    have hv := getV h hins hdep
    change (kd s).holds B base _ w at hv
    rw [hs] at hv
    obtain ⟨g, q, x, e1, _, _, hc, hx⟩ := hv
    unfold Oper.wp execOp
    simp only [ho, e1, Sem.run_bind, run_loadS _ x w hc, Result.andThen_ok]
    exact hK _ _ (Dr.of hJ.src (Keeps.refl w)) (fun d hd => by
      show (kd d).holds B base _ _
      rw [hk d hd]
      exact ⟨x, rfl, hx⟩)
theorem run_buildQ (p q : Option Addr) (n c m d : Nat) (w : World) : (Instr.build 29 #[(0, .slice p n c), (1, .slice q m d)]).run Tryz.prog w = .ok (.agg #[.slice p n c, .slice q m d]) w := by
  kernel_rfl
theorem stBuild (s s' : Nat) (ho : o.op = .build 29 #[(0, .tmp s), (1, .tmp s')]) (h : availB md ops ins o s = true) (h' : availB md ops ins o s' = true) (hs : kd s = .side) (hs' : kd s' = .side) (hk : ∀ d, o.dst = some d → kd d = .seq) : StD md ops Q nt ins kd B base r0 w0 o :=
  fun a w K hsa hJ hins hdep hK => by
    have hv := getV h hins hdep
    have hv' := getV h' hins hdep
    change (kd s).holds B base _ w at hv
    change (kd s').holds B base _ w at hv'
    rw [hs] at hv
    rw [hs'] at hv'
    unfold Oper.wp execOp
    obtain ⟨p, n, c, e3⟩ := SideD.shape hv
    obtain ⟨q, m, d, e4⟩ := SideD.shape hv'
    rw [e3] at hv
    rw [e4] at hv'
    have e2 : (#[(0, Operand.tmp s), (1, Operand.tmp s')] : Array (Nat × Operand)).map (fun (i, x) => (i, a.eval x)) = #[(0, .slice p n c), (1, .slice q m d)] := by simp [e3, e4]
    simp only [ho]
    rw [e2]
    simp only [Sem.run_bind, run_buildQ, Result.andThen_ok]
    exact hK _ _ (Dr.of hJ.src (Keeps.refl w)) (fun d hd => by
      show (kd d).holds B base _ _
      rw [hk d hd]
      exact ⟨_, _, rfl, hv, hv'⟩)
theorem run_storeQ (r : Nat) (p q : Option Addr) (n c m d : Nat) (w : World) (hb : BoxG w r 29 [.slice none 0 0, .slice none 0 0]) : (Instr.storeAt 29 (.pointer (some ⟨r, 0, none⟩)) (.agg #[.slice p n c, .slice q m d])).run Tryz.prog w = .ok () ((w.setCell ⟨r, 0, none⟩ (.slice p n c)).setCell ⟨r, 1, none⟩ (.slice q m d)) := by
  have a0 := hb.cell 0 (by simp)
  have a1 := hb.cell 1 (by simp)
  have f0 := hb.froz 0
  have f1 := hb.froz 1
  simp only [List.getElem_cons_succ, List.getElem_cons_zero] at a0 a1
  simp [Instr.storeAt, go_sem, a0, a1, f0, f1]
/-- what stands behind the store -/
structure EndD (nt : Nat) (ins : List Nat) (kd : Nat → Kd) (ops : Array Oper) (L base r0 : Nat) (a : Act) (w' : World) (x y : Value) : Prop where
  size : a.tmps.size = nt
  df : a.defers = []
  ptr : ∀ s, ins.contains s = true → kd s = .box r0 → a.eval (.tmp s) = .pointer (some ⟨r0, 0, none⟩)
  dsts : ∀ j d, j < L → dstB ops j d = true → kd d = .txt4 → ∃ s : ByteArray, a.eval (.tmp d) = .string s ∧ s.size ≤ 4
  c0 : w'.cell? ⟨r0, 0, none⟩ = some x
  c1 : w'.cell? ⟨r0, 1, none⟩ = some y
  sx : SideD 4 w' base x
  sy : SideD 4 w' base y
  x1 : ∃ p n c, x = .slice p n c
  y1 : ∃ p n c, y = .slice p n c
theorem stStore {L : Nat} (s s' : Nat) (ho : o.op = .store 29 (.tmp s) (.tmp s')) (hd : o.dst = none) (j : Nat) (hi : ins.contains s = true) (hj : j < L) (h' : dstB ops j s' = true) (hs : kd s = .box r0) (hs' : kd s' = .seq)
    (hw0 : w0.heap.size ≤ r0) (hfin : ∀ a w' x y, Dr B w0 w' → EndD nt ins kd ops L base r0 a w' x y → Q .normal a w') : LastOk Tryz.prog ops Q L nt ins (fun s v w => (kd s).holds B base v w) (JD B base r0 w0) o :=
  fun a w K hsa hdf hJ hins hdep hK => by
    have hD := hJ.d0
    have hv := hins s hi
    have hv' := hdep j s' hj h'
    change (kd s).holds B base _ w at hv
    change (kd s').holds B base _ w at hv'
    rw [hs] at hv
    rw [hs'] at hv'
    have hv : a.eval (.tmp s) = .pointer (some ⟨r0, 0, none⟩) := hv
    obtain ⟨x, y, e, hx, hy⟩ := hv'
    obtain ⟨p, n, c, rfl⟩ := hx.shape
    obtain ⟨q, m, d, rfl⟩ := hy.shape
    have hB := hJ.hB
    have hr := hJ.hr
    have b1 := hJ.box.set 0 (.slice p n c)
    have b2 := b1.set 1 (.slice q m d)
    have d1 := hD.box (i := 0) (x := .slice p n c) hJ.box (by omega) hw0
    have d2 := d1.box (i := 1) (x := .slice q m d) b1 (by omega) hw0
    unfold Oper.wp execOp
    simp only [ho, hv, e, Sem.run_bind, run_storeQ r0 p q n c m d w hJ.box, Result.andThen_ok]
    show K (a.put o.dst undef) _
    rw [hd]
    refine hK _ _ (hfin a _ (.slice p n c) (.slice q m d) d2 ⟨hsa, hdf, fun s hs hk => ?_, fun j d hj hd hk => ?_, b2.cell 0 (by simp), b2.cell 1 (by simp), (hx.boxed hJ.box (by decide)).boxed b1 (by decide), (hy.boxed hJ.box (by decide)).boxed b1 (by decide), ⟨_, _, _, rfl⟩, ⟨_, _, _, rfl⟩⟩)
    · have := hins s hs
      change (kd s).holds B base _ w at this
      rw [hk] at this
      exact this
    · have := hdep j d hj hd
      change (kd d).holds B base _ w at this
      rw [hk] at this
      exact this
end
end Go.Proofs.YtgnehffglhbggaaGreat
