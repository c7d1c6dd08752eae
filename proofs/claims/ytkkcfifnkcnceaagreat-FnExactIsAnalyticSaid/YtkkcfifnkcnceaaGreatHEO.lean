import Derived.Test.YtkkcfifnkcnceaaGreatHEM
/- The reference's premise of a modal rule. -/
namespace Go.Proofs.YtkkcfifnkcnceaaGreat
open Go.RowKit
theorem StrsP.box {w : World} {v x : Value} {l : List ByteArray} {r i : Nat} {T : TypeId} {cs : List Value} (h : StrsP w v l) (hb : BoxG w r T cs) (hi : i < cs.length) (hs : ∃ p n c, cs[i] = .slice p n c) : StrsP (w.setCell ⟨r, i, none⟩ x) v l := by
 refine ⟨?_, h.2⟩
 obtain ⟨p, cap, hv, h1, h2, h3, h4⟩ := h.1
 refine ⟨p, cap, hv, h1, h2, h3, fun j hj => ?_⟩
 obtain ⟨b, off, f, hp, hc, hr⟩ := h4 j hj
 refine ⟨b, off, f, hp, fun c hc' => ?_, hr⟩
 have h5 := hc c hc'
 rw [World.cell?_setCell_other]
 ·exact h5
 ·intro e
  obtain ⟨q, n, m, e2⟩ := hs
  rw [← e, hb.cell i hi, e2] at h5
  obtain rfl : c = 0 := by omega
  rw [hr] at h5
  cases h5
theorem BoxG.next {w : World} {r r' i : Nat} {T T' : TypeId} {cs ds : List Value} {x : Value} (h : BoxG w r T cs) (h' : BoxG w r' T' ds) (hne : r ≠ r') : BoxG (w.setCell ⟨r', i, none⟩ x) r T cs :=
 own_touch h (Touch.grown (h'.grown i x)) (fun j e hi => by
  have e1 : r = j := by simpa [Value.ownBlock] using e
  have e2 : j = r' := by simpa using hi
  omega)
theorem lF {F G : Oper → Prop} {L i : Nat} {o : Oper} {l : List Oper} (hi : i < L) (h : F o) (t : stepsL F G L (i + 1) l) : stepsL F G L i (o :: l) := ⟨by rw [if_neg (by omega)]; exact h, t⟩
theorem lG {F G : Oper → Prop} {L : Nat} {o : Oper} (h : G o) : stepsL F G L L [o] := ⟨by rw [if_pos rfl]; exact h, True.intro⟩
theorem map4 {f : Operand → Value} (x y z u : Operand) : (#[x, y, z, u] : Array Operand).map f = #[f x, f y, f z, f u] := by simp
theorem run_storeQ2 (r : Nat) (a b : Value) (p q : Option Addr) (n c m d : Nat) (w : World) (hb : BoxG w r 26 [a, b]) : (Instr.storeAt 26 (.pointer (some ⟨r, 0, none⟩)) (.agg #[.slice p n c, .slice q m d])).run Tryz.prog w = .ok () ((w.setCell ⟨r, 0, none⟩ (.slice p n c)).setCell ⟨r, 1, none⟩ (.slice q m d)) := by
 have a0 := hb.cell 0 (by simp)
 have a1 := hb.cell 1 (by simp)
 have f0 := hb.froz 0
 have f1 := hb.froz 1
 simp only [List.getElem_cons_succ, List.getElem_cons_zero] at a0 a1
 simp [Instr.storeAt, go_sem, a0, a1, f0, f1]
def boxK (B : Nat) : Kq := .pr (fun v w => ∃ r, v = .pointer (some ⟨r, 0, none⟩) ∧ B ≤ r ∧ BoxG w r 26 [.slice none 0 0, .slice none 0 0]) (fun _ _ _ k ⟨r, e, h1, h2⟩ => ⟨r, e, h1, h2.keeps k⟩)
section
variable {md : Region.Mode} {ops : Array Oper} {Q : Exit → Act → World → Prop} {nt : Nat} {ins : List Nat} {kd : Nat → Kq} {w0 : World} {o : Oper}
theorem kBox (B : Nat) (ho : o.op = .alloc 26) (hg : o.guard = none) (hB : B ≤ w0.heap.size) (hk : ∀ d, o.dst = some d → kd d = boxK B) : StQ md ops Q nt ins kd w0 o :=
 StepK.plain hg fun a w K hsa hJ hins hdep hK => by
  have hrun : ∀ (b : Act) wz, (execOp b.eval o).run Tryz.prog wz = .ok (.value (.pointer (some ⟨wz.heap.size, 0, none⟩))) (wz.alloc (.cells #[.slice none 0 0, .slice none 0 0] 26)) := fun b wz => by
   unfold execOp
   rw [ho]
   kernel_rfl
  unfold Oper.wp
  rw [hrun a w]
  refine hK _ _ ((Keeps.refl w).alloc _) (fun d hd => ?_)
  show (kd d).holds _ _
  rw [hk d hd]
  exact ⟨_, rfl, Nat.le_trans hB hJ.size, BoxG.made w _ [.slice none 0 0, .slice none 0 0] (by simp) (by simp)⟩
theorem run_fieldQ0 (b : Nat) (w : World) : (Instr.fieldAt 26 (.pointer (some ⟨b, 0, none⟩)) 0).run Tryz.prog w = .ok (.pointer (some ⟨b, 0, none⟩)) w := by kernel_rfl
theorem run_fieldQ1 (b : Nat) (w : World) : (Instr.fieldAt 26 (.pointer (some ⟨b, 0, none⟩)) 1).run Tryz.prog w = .ok (.pointer (some ⟨b, 1, none⟩)) w := by kernel_rfl
end
def kdMo (B b0 : Nat) (lg main : ByteArray) (L R L' R' : List ByteArray) (s : Nat) : Kq :=
 if s = 0 ∨ s = 11 ∨ s = 16 then .val (.string lg) else if s = 2 ∨ s = 14 ∨ s = 19 then .val (.string main) else if s = 4 ∨ s = 12 then .val (.pointer (some ⟨b0, 0, none⟩)) else if s = 17 then .val (.pointer (some ⟨b0, 1, none⟩)) else
 if s = 13 then .strs L else if s = 18 then .strs R else if s = 15 then .strs L' else if s = 20 then .strs R' else if s = 21 then .sq L' R' else if s = 7 then boxK B else .any
def RetQ (w : World) (x y : List ByteArray) (e : Ending) (w' : World) : Prop := ∃ a b, e = .returned (.agg #[a, b]) ∧ StrsP w' a x ∧ StrsP w' b y ∧ Keeps w w'
structure MoB (w wz : World) (r : Nat) (x y : Value) (X Y : List ByteArray) : Prop where
 box : BoxG wz r 26 [x, y]
 sx : StrsP wz x X
 sy : StrsP wz y Y
 res : BoxG wz (w.heap.size + 1) 26 [.slice none 0 0, .slice none 0 0]
 kp : Keeps w wz
 hr : w.heap.size + 2 ≤ r
theorem MoB.keeps {w wz w' : World} {r : Nat} {x y : Value} {X Y : List ByteArray} (h : MoB w wz r x y X Y) (k : Keeps wz w') : MoB w w' r x y X Y := ⟨h.box.keeps k, h.sx.keeps k, h.sy.keeps k, h.res.keeps k, h.kp.trans k, h.hr⟩
theorem MoB.cells {w wz : World} {r : Nat} {x y : Value} {X Y : List ByteArray} (h : MoB w wz r x y X Y) : wz.cell? ⟨r, 0, none⟩ = some x ∧ wz.cell? ⟨r, 1, none⟩ = some y ∧ wz.frozen? ⟨r, 0, none⟩ = false ∧ wz.frozen? ⟨r, 1, none⟩ = false :=
 ⟨h.box.cell 0 (by simp), h.box.cell 1 (by simp), h.box.froz 0, h.box.froz 1⟩
theorem MoB.rcells {w wz : World} {r : Nat} {x y : Value} {X Y : List ByteArray} (h : MoB w wz r x y X Y) : wz.cell? ⟨w.heap.size + 1, 0, none⟩ = some (.slice none 0 0) ∧ wz.cell? ⟨w.heap.size + 1, 1, none⟩ = some (.slice none 0 0) ∧ wz.frozen? ⟨w.heap.size + 1, 0, none⟩ = false ∧ wz.frozen? ⟨w.heap.size + 1, 1, none⟩ = false :=
 ⟨h.res.cell 0 (by simp), h.res.cell 1 (by simp), h.res.froz 0, h.res.froz 1⟩
theorem MoB.set0 {w wz : World} {r : Nat} {x y x' : Value} {X Y X' : List ByteArray} (h : MoB w wz r x y X Y) (hx : StrsP wz x' X') : MoB w (wz.setCell ⟨r, 0, none⟩ x') r x' y X' Y := by
 have hr := h.hr
 have hs := h.sx.sh
 exact ⟨h.box.set 0 x', hx.box h.box (by simp) hs, h.sy.box h.box (by simp) hs, h.res.next h.box (by omega), h.kp.setCell (p := ⟨r, 0, none⟩) (by show w.heap.size ≤ r; omega) _, hr⟩
theorem MoB.set1 {w wz : World} {r : Nat} {x y y' : Value} {X Y Y' : List ByteArray} (h : MoB w wz r x y X Y) (hy : StrsP wz y' Y') : MoB w (wz.setCell ⟨r, 1, none⟩ y') r x y' X Y' := by
 have hr := h.hr
 have hs := h.sy.sh
 exact ⟨h.box.set 1 y', h.sx.box h.box (by simp) hs, hy.box h.box (by simp) hs, h.res.next h.box (by omega), h.kp.setCell (p := ⟨r, 1, none⟩) (by show w.heap.size ≤ r; omega) _, hr⟩
theorem MoB.fin {w wz : World} {r : Nat} {x y : Value} {X Y : List ByteArray} (h : MoB w wz r x y X Y) :
  (((wz.setCell ⟨w.heap.size + 1, 0, none⟩ x).setCell ⟨w.heap.size + 1, 1, none⟩ y).cell? ⟨w.heap.size + 1, 0, none⟩ = some x ∧ ((wz.setCell ⟨w.heap.size + 1, 0, none⟩ x).setCell ⟨w.heap.size + 1, 1, none⟩ y).cell? ⟨w.heap.size + 1, 1, none⟩ = some y) ∧
  RetQ w X Y (.returned (.agg #[x, y])) ((wz.setCell ⟨w.heap.size + 1, 0, none⟩ x).setCell ⟨w.heap.size + 1, 1, none⟩ y) := by
 have b1 := h.res.set 0 x
 have b2 := b1.set 1 y
 refine ⟨⟨b2.cell 0 (by simp), b2.cell 1 (by simp)⟩, _, _, rfl, (h.sx.box h.res (by simp) ⟨_, _, _, rfl⟩).box b1 (by simp) ⟨_, _, _, rfl⟩, (h.sy.box h.res (by simp) ⟨_, _, _, rfl⟩).box b1 (by simp) ⟨_, _, _, rfl⟩, ?_⟩
 exact (h.kp.setCell (p := ⟨w.heap.size + 1, 0, none⟩) (by show w.heap.size ≤ w.heap.size + 1; omega) _).setCell (p := ⟨w.heap.size + 1, 1, none⟩) (by show w.heap.size ≤ w.heap.size + 1; omega) _
noncomputable def mdQ (L : Nat) (ss tt : List ByteArray) (main : ByteArray) : SqT := if main = ⟨#[]⟩ then (mopL L ss main, mopR L tt main) else if isBx (txF main) then moBx L ss tt main else moDi L ss tt main
theorem enters_kept : Enters 109 := fun _ _ => by kernel_rfl
set_option maxRecDepth 20000 in
set_option maxHeartbeats 4000000 in
theorem l11Modal_any (lg main : ByteArray) (ss tt : List ByteArray) (hs : Side ss) (ht : Side tt) (a b : Value) (w : World) (ha : StrsP w a ss) (hb : StrsP w b tt) (hl : ss.length ≤ 1000 ∧ tt.length ≤ 1000) (hm : main = ⟨#[]⟩ ∨ ∃ t, IsTx main t ∧ (t.kind = 5 ∨ t.kind = 6)) :
  Calls Tryz.prog 59 #[.string lg, .agg #[a, b], .string main] w (RetQ w (mdQ (lgN lg) ss tt main).1 (mdQ (lgN lg) ss tt main).2) := by
 obtain ⟨p, n, c, rfl⟩ := ha.sh
 obtain ⟨q, m, d, rfl⟩ := hb.sh
 have k1 := (Keeps.refl w).alloc (.cells #[.slice p n c, .slice q m d] 26)
 have b1 := BoxG.made w 26 [.slice p n c, .slice q m d] (by simp) (by simp)
 have hz1 : (w.alloc (.cells #[.slice p n c, .slice q m d] 26)).heap.size = w.heap.size + 1 := by simp
 have k2 := (Keeps.refl (w.alloc (.cells #[.slice p n c, .slice q m d] 26))).alloc (.cells #[.slice none 0 0, .slice none 0 0] 26)
 have b2 := BoxG.made (w.alloc (.cells #[.slice p n c, .slice q m d] 26)) 26 [.slice none 0 0, .slice none 0 0] (by simp) (by simp)
 rw [hz1] at b2
 have hz2 : ((w.alloc (.cells #[.slice p n c, .slice q m d] 26)).alloc (.cells #[.slice none 0 0, .slice none 0 0] 26)).heap.size = w.heap.size + 2 := by simp
 have K2 := k1.trans k2
 have HB1 := hid (b1.keeps k2)
 have HB2 := hid b2
 have HA := hid (ha.keeps K2)
 have HC := hid (hb.keeps K2)
 have HS := hid hs
 have HT := hid ht
 have HM := hid hm
 have HZ := hid hz2
 clear ha hb b1 b2 k1 k2 hs ht hm hz1 hz2
 go_enter Tryz.func59, Tryz.ntmps59
 go_upto_region 1 with fail
 generalize (w.alloc (.cells #[.slice p n c, .slice q m d] 26)).alloc (.cells #[.slice none 0 0, .slice none 0 0] 26) = w1 at *
 go_cut [7] from 11 to 21 (fun p7 wx => ∃ r x y, p7 = .pointer (some ⟨r, 0, none⟩) ∧ w.heap.size + 2 ≤ r ∧ BoxG wx r 26 [x, y] ∧ StrsP wx x (mopL (lgN lg) ss main) ∧ StrsP wx y (mopR (lgN lg) tt main) ∧ BoxG wx (w.heap.size + 1) 26 [.slice none 0 0, .slice none 0 0] ∧ Keeps w wx)
 case first =>
  have kd := (Keeps.refl w1).drew
  have c0 := (HB1.out.keeps kd).cell 0 (by simp)
  have c1 := (HB1.out.keeps kd).cell 1 (by simp)
  simp only [List.getElem_cons_zero, List.getElem_cons_succ] at c0 c1
  refine wp_region_last (L := 12) (nt := 64) (ins := [0, 2, 4]) (ds := [11, 12, 13, 14, 15, 16, 17, 18, 19, 20, 21, 7]) (by kernel_rfl) (by kernel_rfl) (fun s v w' => (kdMo (w.heap.size + 2) w.heap.size lg main ss tt (mopL (lgN lg) ss main) (mopR (lgN lg) tt main) s).holds v w') (fun _ _ _ _ h hv => Kq.keeps h hv)
   (fun f w' => ∃ r x y, f 7 = .pointer (some ⟨r, 0, none⟩) ∧ w.heap.size + 2 ≤ r ∧ BoxG w' r 26 [x, y] ∧ StrsP w' x (mopL (lgN lg) ss main) ∧ StrsP w' y (mopR (lgN lg) tt main) ∧ BoxG w' (w.heap.size + 1) 26 [.slice none 0 0, .slice none 0 0] ∧ Keeps w w') ?_ (by kernel_rfl) rfl ?_ ?_
  ·have hd2 := Nat.le_trans (Nat.le_of_eq HZ.out.symm) kd.size
   refine lF (by decide) (kMove 0 (.inl rfl) rfl (by kernel_rfl) (fun d hd => by cases hd; rfl)) ?_
   refine lF (by decide) (kPure1 4 (.pointer (some ⟨w.heap.size, 0, none⟩)) (.pointer (some ⟨w.heap.size, 0, none⟩)) rfl (by kernel_rfl) rfl (fun a w1 h1 => by unfold execOp; simp only [h1, Sem.run_bind, run_fieldQ0 w.heap.size]; rfl) (fun d hd => by cases hd; rfl)) ?_
   refine lF (by decide) (kLoadS 12 _ _ _ rfl rfl (by kernel_rfl) rfl c0 (HA.out.keeps kd) (fun d hd => by cases hd; rfl)) ?_
   refine lF (by decide) (kMove 2 (.inl rfl) rfl (by kernel_rfl) (fun d hd => by cases hd; rfl)) ?_
   refine lF (by decide) (kCall 109 _ _ rfl enters_kept rfl (fun a w1 h1 hv1 => ?_)) ?_
   ·have g1 : a.eval (.tmp 11) = .string lg := hv1 11 (by kernel_rfl)
    have g2 : StrsP w1 (a.eval (.tmp 13)) ss := hv1 13 (by kernel_rfl)
    have g3 : a.eval (.tmp 14) = .string main := hv1 14 (by kernel_rfl)
    have g4 : a.eval (.const (.int .i64 5)) = .int .i64 5 := rfl
    rw [map4, g1, g3, g4]
    refine (l11Kept_any lg ss HS.out _ 5 (.inl rfl) main w1 g2.1 hl.1).mono ?_
    rintro e w2 ⟨v3, rfl, h3, k3⟩
    exact ⟨_, rfl, k3, fun d hd => by cases hd; rw [isKd_bx] at h3; exact h3⟩
   refine lF (by decide) (kMove 0 (.inl rfl) rfl (by kernel_rfl) (fun d hd => by cases hd; rfl)) ?_
   refine lF (by decide) (kPure1 4 (.pointer (some ⟨w.heap.size, 0, none⟩)) (.pointer (some ⟨w.heap.size, 1, none⟩)) rfl (by kernel_rfl) rfl (fun a w1 h1 => by unfold execOp; simp only [h1, Sem.run_bind, run_fieldQ1 w.heap.size]; rfl) (fun d hd => by cases hd; rfl)) ?_
   refine lF (by decide) (kLoadS 17 _ _ _ rfl rfl (by kernel_rfl) rfl c1 (HC.out.keeps kd) (fun d hd => by cases hd; rfl)) ?_
   refine lF (by decide) (kMove 2 (.inl rfl) rfl (by kernel_rfl) (fun d hd => by cases hd; rfl)) ?_
   refine lF (by decide) (kCall 109 _ _ rfl enters_kept rfl (fun a w1 h1 hv1 => ?_)) ?_
   ·have g1 : a.eval (.tmp 16) = .string lg := hv1 16 (by kernel_rfl)
    have g2 : StrsP w1 (a.eval (.tmp 18)) tt := hv1 18 (by kernel_rfl)
    have g3 : a.eval (.tmp 19) = .string main := hv1 19 (by kernel_rfl)
    have g4 : a.eval (.const (.int .i64 6)) = .int .i64 6 := rfl
    rw [map4, g1, g3, g4]
    refine (l11Kept_any lg tt HT.out _ 6 (.inr rfl) main w1 g2.1 hl.2).mono ?_
    rintro e w2 ⟨v3, rfl, h3, k3⟩
    exact ⟨_, rfl, k3, fun d hd => by cases hd; rw [isKd_di] at h3; exact h3⟩
   refine lF (by decide) (kBuild 15 20 (mopL (lgN lg) ss main) (mopR (lgN lg) tt main) rfl rfl (by kernel_rfl) (by kernel_rfl) rfl rfl (fun d hd => by cases hd; rfl)) ?_
   refine lF (by decide) (kBox (w.heap.size + 2) rfl rfl hd2 (fun d hd => by cases hd; rfl)) ?_
   refine lG ?_
   intro a w2 K hsa h1 hds hK
   have h7 : ∃ r, a.eval (.tmp 7) = .pointer (some ⟨r, 0, none⟩) ∧ w.heap.size + 2 ≤ r ∧ BoxG w2 r 26 [.slice none 0 0, .slice none 0 0] := hds 7 (by decide)
   have h21 : ∃ x y, a.eval (.tmp 21) = .agg #[x, y] ∧ StrsP w2 x (mopL (lgN lg) ss main) ∧ StrsP w2 y (mopR (lgN lg) tt main) := hds 21 (by decide)
   obtain ⟨r, e7, hr, hbx⟩ := h7
   obtain ⟨x, y, e21, hx, hy⟩ := h21
   obtain ⟨px, nx, cx, rfl⟩ := hx.sh
   obtain ⟨py, ny, cy, rfl⟩ := hy.sh
   have b3 := hbx.set 0 (.slice px nx cx)
   have b4 := b3.set 1 (.slice py ny cy)
   have hrb := (HB2.out.keeps kd).keeps h1
   have hne : w.heap.size + 1 ≠ r := by omega
   unfold Oper.wp execOp
   simp only [e7, e21, Sem.run_bind, run_storeQ2 r _ _ px py nx cx ny cy w2 hbx, Result.andThen_ok]
   show K (a.put none undef) _
   refine hK undef _ ⟨r, _, _, by simpa using e7, hr, b4, (hx.box hbx (i := 0) (by simp) ⟨_, _, _, rfl⟩).box b3 (i := 1) (by simp) ⟨_, _, _, rfl⟩, (hy.box hbx (i := 0) (by simp) ⟨_, _, _, rfl⟩).box b3 (i := 1) (by simp) ⟨_, _, _, rfl⟩, (hrb.next hbx hne).next b3 hne, ?_⟩
   exact (((K2.trans kd).trans h1).setCell (p := ⟨r, 0, none⟩) (by show w.heap.size ≤ r; omega) _).setCell (p := ⟨r, 1, none⟩) (by show w.heap.size ≤ r; omega) _
  ·intro s hs
   have : s = 0 ∨ s = 2 ∨ s = 4 := by simpa using hs
   rcases this with rfl | rfl | rfl <;> rfl
  ·intro f w' hF
   obtain ⟨r, x, y, e7, hr, j1, j2, j3, j4, j5⟩ := hF
   have HJ := hid (And.intro hr (And.intro j1 (And.intro j2 (And.intro j3 (And.intro j4 j5)))))
   clear hr j1 j2 j3 j4 j5
   simp only [putAll, Act.put, List.setIfInBounds_toArray, List.set_cons_zero, List.set_cons_succ, e7]
   go_wp2_with fail
   go_meet
   exact ⟨r, x, y, rfl, HJ.out⟩
 case rest =>
  obtain ⟨r, x, y, rfl, hr, j1, j2, j3, j4, j5⟩ := hcut
  obtain ⟨px, nx, cx, rfl⟩ := j2.sh
  obtain ⟨py, ny, cy, rfl⟩ := j3.sh
  have HD2 : Hid (mdQ (lgN lg) ss tt main = if main = ⟨#[]⟩ then (mopL (lgN lg) ss main, mopR (lgN lg) tt main) else if isBx (txF main) then moBx (lgN lg) ss tt main else moDi (lgN lg) ss tt main) := hid rfl
  generalize mdQ (lgN lg) ss tt main = R at *
  have hB0 : MoB w wc r (.slice px nx cx) (.slice py ny cy) (mopL (lgN lg) ss main) (mopR (lgN lg) tt main) := ⟨j1, j2, j3, j4, j5, hr⟩
  have l1 : (mopL (lgN lg) ss main).length ≤ 2000 := by have := kepS_len (lgN lg) isBx ss main; unfold mopL; omega
  have l2 : (mopR (lgN lg) tt main).length ≤ 2000 := by have := kepS_len (lgN lg) isDi tt main; unfold mopR; omega
  have HB := hid hB0
  clear j1 j2 j3 j4 j5 HB1 HB2 HA HC HS HT HZ hB0
  rcases HM.out with h0 | ⟨t, ht, hk⟩
  ·subst h0
   rw [if_pos rfl] at HD2
   obtain ⟨c0, c1, f0, f1⟩ := HB.out.cells
   obtain ⟨d0, d1, g0, g1⟩ := HB.out.rcells
   go_wp2_with fail
   obtain ⟨⟨y0, y1⟩, hR⟩ := HB.out.fin
   refine bodyPost_ret (v := .agg #[.slice px nx cx, .slice py ny cy]) (by simp [results, Tryz.results59, go_sem, y0, y1]) rfl ?_
   rw [HD2.out]
   exact hR
  ·have hne : main ≠ ⟨#[]⟩ := fun e => by
    subst e
    have h1 := ht.2.1
    have h2 := body_pos t
    rw [← h1] at h2
    exact absurd h2 (by decide)
   rw [if_neg hne] at HD2
   have hne2 : (main.toList == []) = false := by
    cases main with | mk dd => cases dd with | mk l => cases l with
     | nil => exact absurd rfl hne
     | cons x l => rw [ByteArray.toList_eq]; rfl
   obtain ⟨c0, c1, f0, f1⟩ := HB.out.cells
   obtain ⟨d0, d1, g0, g1⟩ := HB.out.rcells
   have HG := hid (fun wz => l02GoodA main wz (by have := ht.small; omega))
   unfold GoodR at HG
   rw [isTx_iff.2 ⟨_, ht⟩] at HG
   have HTT := hid ht
   have HK := hid hk
   clear ht hk hne
   have e2 := nmGL lg
   have HPI : Hid (paI main = txS (below t)) := hid (by rw [← txF_eq HTT.out]; rfl)
   have HBX : Hid (isBx (txF main) = isBx t) := hid (by rw [txF_eq HTT.out])
   unfold moBx moDi at HD2
   rw [HPI.out, HBX.out] at HD2
   clear HPI HBX
   have m1 := insS_len (mopL (lgN lg) ss main) main
   generalize mopL (lgN lg) ss main = X at *
   generalize mopR (lgN lg) tt main = Y at *
   clear hl HM
   go_wp2_with fail
   refine (HG.out _).mono ?_; rintro e w2 ⟨v2, rfl, k2, hg2⟩
   obtain ⟨g, cap, p3, n3, c3, rfl, hc1, hc2, h0, z0, -, hsl, htl⟩ := tail_part HTT.out HK.out (hg2 t HTT.out)
   have HTX2 := hid (l02TextA (below t) (below_wf HTT.out.1) (by have := HTT.out.2.2; have := below_le (t := t); omega) _ w2 htl)
   unfold maxLen at hc2
   clear hg2 htl c0 c1 f0 f1 d0 d1 g0 g1
   have HB2 := hid (HB.out.keeps k2)
   clear HB
   go_wp2_with fail
   refine HTX2.out.mono ?_; rintro e w3 ⟨s3, rfl, hs3, k3⟩
   obtain rfl := txS_eq hs3
   have HB3 := hid (HB2.out.keeps k3)
   have z3 := k3.cell z0
   clear hs3 HB2 z0
   generalize txS (below t) = pt at *
   rcases HK.out with h5 | h6
   ·have hbx : isBx t = true := by cases t <;> simp [Fm.kind] at h5 <;> rfl
    rw [if_pos hbx] at HD2
    rw [h5] at z3
    clear hbx h5 HK
    obtain ⟨c0, c1, f0, f1⟩ := HB3.out.cells
    have HI := hid (l02InsertR_any Y _ pt w3 HB3.out.sy (by omega))
    go_wp2_with fail
    refine HI.out.mono ?_; rintro e w4 ⟨v4, rfl, hv4, k4⟩
    obtain ⟨p4, n4, c4, rfl⟩ := hv4.sh
    clear c0 c1 f0 f1
    have hB4 := HB3.out.keeps k4
    obtain ⟨c0, c1, f0, f1⟩ := hB4.cells
    have HB5 := hid (hB4.set1 hv4)
    clear hB4 hv4 HI HB3 z3 k4
    by_cases hgl : lgN lg = 5
    ·rw [decide_eq_true hgl] at e2
     rw [if_pos hgl] at HD2
     clear hgl
     go_upto_if 44 with fail
     clear c0 c1 f0 f1
     generalize w4.setCell ⟨r, 1, none⟩ (.slice p4 n4 c4) = w5 at *
     obtain ⟨c0, c1, f0, f1⟩ := HB5.out.cells
     have HI := hid (l02InsertR_any X _ main w5 HB5.out.sx (by omega))
     go_wp2_with fail
     refine HI.out.mono ?_; rintro e w6 ⟨v6, rfl, hv6, k6⟩
     obtain ⟨p6, n6, c6, rfl⟩ := hv6.sh
     clear c0 c1 f0 f1
     have hB6 := HB5.out.keeps k6
     obtain ⟨c0, c1, f0, f1⟩ := hB6.cells
     have HBZ := hid (hB6.set0 hv6)
     clear hB6 hv6 HI HB5 k6
     go_upto_region 10 with fail
     clear c0 c1 f0 f1
     generalize w6.setCell ⟨r, 0, none⟩ (.slice p6 n6 c6) = w7 at *
     obtain ⟨c0, c1, f0, f1⟩ := HBZ.out.cells
     obtain ⟨d0, d1, g0, g1⟩ := HBZ.out.rcells
     go_wp2_with fail
     obtain ⟨⟨y0, y1⟩, hR⟩ := HBZ.out.fin
     refine bodyPost_ret (v := .agg #[.slice p6 n6 c6, .slice p4 n4 c4]) (by simp [results, Tryz.results59, go_sem, y0, y1]) rfl ?_
     rw [HD2.out]
     exact hR
    ·rw [decide_eq_false hgl] at e2
     rw [if_neg hgl] at HD2
     clear hgl
     go_upto_if 44 with fail
     clear c0 c1 f0 f1
     generalize w4.setCell ⟨r, 1, none⟩ (.slice p4 n4 c4) = w5 at *
     have HBZ := hid HB5.out
     clear HB5
     obtain ⟨c0, c1, f0, f1⟩ := HBZ.out.cells
     obtain ⟨d0, d1, g0, g1⟩ := HBZ.out.rcells
     go_wp2_with fail
     obtain ⟨⟨y0, y1⟩, hR⟩ := HBZ.out.fin
     refine bodyPost_ret (v := .agg #[.slice px nx cx, .slice p4 n4 c4]) (by simp [results, Tryz.results59, go_sem, y0, y1]) rfl ?_
     rw [HD2.out]
     exact hR
   ·have hbx : isBx t = false := by cases t <;> simp [Fm.kind] at h6 <;> rfl
    rw [if_neg (by rw [hbx]; simp)] at HD2
    rw [h6] at z3
    clear hbx h6 HK
    obtain ⟨c0, c1, f0, f1⟩ := HB3.out.cells
    have HI := hid (l02InsertR_any X _ pt w3 HB3.out.sx (by omega))
    go_wp2_with fail
    refine HI.out.mono ?_; rintro e w4 ⟨v4, rfl, hv4, k4⟩
    obtain ⟨p4, n4, c4, rfl⟩ := hv4.sh
    clear c0 c1 f0 f1
    have hB4 := HB3.out.keeps k4
    obtain ⟨c0, c1, f0, f1⟩ := hB4.cells
    have HB5 := hid (hB4.set0 hv4)
    clear hB4 hv4 HI HB3 z3 k4
    by_cases hgl : lgN lg = 5
    ·rw [decide_eq_true hgl] at e2
     rw [if_pos hgl] at HD2
     clear hgl
     go_upto_if 57 with fail
     clear c0 c1 f0 f1
     generalize w4.setCell ⟨r, 0, none⟩ (.slice p4 n4 c4) = w5 at *
     obtain ⟨c0, c1, f0, f1⟩ := HB5.out.cells
     have HI := hid (l02InsertR_any Y _ main w5 HB5.out.sy (by omega))
     go_wp2_with fail
     refine HI.out.mono ?_; rintro e w6 ⟨v6, rfl, hv6, k6⟩
     obtain ⟨p6, n6, c6, rfl⟩ := hv6.sh
     clear c0 c1 f0 f1
     have hB6 := HB5.out.keeps k6
     obtain ⟨c0, c1, f0, f1⟩ := hB6.cells
     have HBZ := hid (hB6.set1 hv6)
     clear hB6 hv6 HI HB5 k6
     go_upto_region 14 with fail
     clear c0 c1 f0 f1
     generalize w6.setCell ⟨r, 1, none⟩ (.slice p6 n6 c6) = w7 at *
     obtain ⟨c0, c1, f0, f1⟩ := HBZ.out.cells
     obtain ⟨d0, d1, g0, g1⟩ := HBZ.out.rcells
     go_wp2_with fail
     obtain ⟨⟨y0, y1⟩, hR⟩ := HBZ.out.fin
     refine bodyPost_ret (v := .agg #[.slice p4 n4 c4, .slice p6 n6 c6]) (by simp [results, Tryz.results59, go_sem, y0, y1]) rfl ?_
     rw [HD2.out]
     exact hR
    ·rw [decide_eq_false hgl] at e2
     rw [if_neg hgl] at HD2
     clear hgl
     go_upto_if 57 with fail
     clear c0 c1 f0 f1
     generalize w4.setCell ⟨r, 0, none⟩ (.slice p4 n4 c4) = w5 at *
     have HBZ := hid HB5.out
     clear HB5
     obtain ⟨c0, c1, f0, f1⟩ := HBZ.out.cells
     obtain ⟨d0, d1, g0, g1⟩ := HBZ.out.rcells
     go_wp2_with fail
     obtain ⟨⟨y0, y1⟩, hR⟩ := HBZ.out.fin
     refine bodyPost_ret (v := .agg #[.slice p4 n4 c4, .slice py ny cy]) (by simp [results, Tryz.results59, go_sem, y0, y1]) rfl ?_
     rw [HD2.out]
     exact hR
end Go.Proofs.YtkkcfifnkcnceaaGreat
namespace Go.Proofs.YtkkcfifnkcnceaaGreat
open Go.RowKit
open scoped Classical in
theorem says_in (ss : List ByteArray) (x : ByteArray) (v : Value) (w : World) (hv : Strs w v ss) : Calls Tryz.prog 42 #[v, .string x] w fun e w' => e = .returned (.bool (inS ss x)) ∧ w = w' := by
 refine (l01Says_any ss x v w hv).mono ?_
 rintro e w' ⟨rfl, rfl⟩
 refine ⟨?_, rfl⟩
 congr 2
 rw [Bool.eq_iff_iff, decide_eq_true_eq, inS_iff]
theorem SqL.none0 (w : World) (p : Option Addr) : SqL w (.slice p 0 0) [] := ⟨p, 0, rfl, by simp, by simp [maxLen], by simp, fun i h => by simp at h⟩
theorem tx_fls : txS .fls = ⟨#[70]⟩ := (txS_eq (by decide)).symm
theorem toL_ne {s : ByteArray} (h : s ≠ ⟨#[]⟩) : (s.toList == []) = false := by
 cases s with | mk dd => cases dd with | mk l => cases l with
  | nil => exact absurd rfl h
  | cons x l => rw [ByteArray.toList_eq]; rfl
theorem run_eqI (r c : Int) (w : World) : (binOp .eql 2 (.int .i64 r) (.int .i64 c)).run Tryz.prog w = .ok (.bool (r == c)) w := by kernel_rfl
section
variable {md : Region.Mode} {ops : Array Oper} {Q : Exit → Act → World → Prop} {nt : Nat} {ins : List Nat} {kd : Nat → Kq} {w0 : World} {o : Oper}
theorem lK {F : Oper → Prop} {o : Oper} {l : List Oper} (h : F o) (t : stepsK F l) : stepsK F (o :: l) := ⟨h, t⟩
theorem enters_ins : Enters 55 := fun _ _ => by kernel_rfl
theorem enters_seqs : Enters 58 := fun _ _ => by kernel_rfl
theorem kIns (s s' : Nat) (x : List ByteArray) (y : ByteArray) (ho : o.op = .call { callee := .value (.func 55), args := #[.tmp s, .tmp s'], argTypes := #[24, 9] }) (hg : o.guard = none) (h : availK md ops ins o s = true) (h' : availK md ops ins o s' = true) (hs : kd s = .strs x) (hs' : kd s' = .val (.string y)) (hl : x.length ≤ 1000000) (hk : ∀ d, o.dst = some d → kd d = .strs (insS x y)) : StQ md ops Q nt ins kd w0 o :=
 kCall 55 _ _ ho enters_ins hg (fun a w1 _ hv => by
  have g1 := hv s h
  have g2 := hv s' h'
  rw [hs] at g1
  rw [hs'] at g2
  have g1 : StrsP w1 (a.eval (.tmp s)) x := g1
  have g2 : a.eval (.tmp s') = .string y := g2
  rw [map2, g2]
  refine (l02InsertR_any x _ y w1 g1 hl).mono ?_
  rintro e w2 ⟨v3, rfl, h3, k3⟩
  exact ⟨_, rfl, k3, fun d hd => by rw [hk d hd]; exact h3⟩)
theorem kSeqs (s : Nat) (ps : List SqT) (ho : o.op = .call { callee := .value (.func 58), args := #[.tmp s], argTypes := #[134] }) (hg : o.guard = none) (h : availK md ops ins o s = true) (hs : kd s = .sds (flatQ ps)) (hn : ps.length ≤ 100) (hb : ∀ p ∈ ps, p.1.length ≤ 1000000 ∧ p.2.length ≤ 1000000) (hk : ∀ d, o.dst = some d → kd d = .sqs ps) : StQ md ops Q nt ins kd w0 o :=
 kCall 58 _ _ ho enters_seqs hg (fun a w1 _ hv => by
  have g1 := hv s h
  rw [hs] at g1
  have g1 : SdL w1 (a.eval (.tmp s)) (flatQ ps) := g1
  rw [map1]
  refine (l11Sequents_any ps hn hb _ w1 g1).mono ?_
  rintro e w2 ⟨v3, rfl, _, h3, k3⟩
  exact ⟨_, rfl, k3, fun d hd => by rw [hk d hd]; exact h3⟩)
end
end Go.Proofs.YtkkcfifnkcnceaaGreat
