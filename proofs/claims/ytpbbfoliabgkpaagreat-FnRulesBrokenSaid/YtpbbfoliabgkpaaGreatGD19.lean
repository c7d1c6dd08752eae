/- Draws of rules with substitutions, with candidates. -/
import Derived.Test.YtpbbfoliabgkpaaGreatGD18
import Derived.Test.YtpbbfoliabgkpaaGreatGD10
namespace Go.Proofs.YtpbbfoliabgkpaaGreat
open Go.RowKit
/-- a value reads as a list of lists as long as a row of the call's own stays as it is -/
def Pull (w w' : World) (y : Value) (ims : List (List Nd)) : Prop := ∃ b o, ∃ l0 : List (List Nd), w.heap.size ≤ b ∧ OwnL w' b o l0 ∧ ∀ w2, OwnL w2 b o l0 → NdsL w2 y ims
theorem Pull.ndsL {w w' : World} {y : Value} {ims : List (List Nd)} (h : Pull w w' y ims) : NdsL w' y ims := by
  obtain ⟨b, o, l0, _, ho, hy⟩ := h
  exact hy _ ho
theorem Pull.setBelow {w0 w w' : World} {y : Value} {ims : List (List Nd)} (h : Pull w w' y ims) {R i : Nat} (hR : R < w.heap.size) (hw : w0.heap.size ≤ w.heap.size) (x : Value) : Pull w0 (w'.setCell ⟨R, i, none⟩ x) y ims := by
  obtain ⟨b, o, l0, hb, ho, hy⟩ := h
  exact ⟨b, o, l0, by omega, ho.setBelow (by omega) x, hy⟩
/-- a rule and a list of lists are drawn -/
def DrawRI (w : World) (e : Ending) (w' : World) : Prop := ∃ x u y, ∃ l : List (List Nd), ∃ c : List Nd, ∃ ims : List (List Nd), e = .returned (.tuple #[.agg #[x, u], y]) ∧ OwnL w' w.heap.size x l ∧ OwnN w' w.heap.size u c ∧ Pull w w' y ims ∧ l.length ≤ 1000 ∧ tot l ≤ 2000 ∧ c.length ≤ 2000 ∧ ims.length ≤ 20 ∧ tot ims ≤ 1000 ∧ Keeps w w'
--
set_option maxRecDepth 20000 in
set_option maxHeartbeats 1000000 in
theorem drawImageOfRule_any (v : Value) (n : Nat) (w : World) (hv : Bts w v n) (hn : n ≤ 4096) : Calls Tryz.prog 75 #[v] w (DrawRI w) := by
  have ka := (Keeps.refl w).alloc (.cells #[.slice none 0 0, .slice none 0 0] 37)
  have hbx : BoxR (w.alloc (.cells #[.slice none 0 0, .slice none 0 0] 37)) w.heap.size (.slice none 0 0) (.slice none 0 0) := World.ownsRow_lit w #[.slice none 0 0, .slice none 0 0] 1 (Nat.le_refl _) (by simp [maxLen]) (by simp)
  have HF := hid (l01From_any v n _ (hv.keeps ka) hn)
  obtain ⟨p, c, rfl, _⟩ := hv
  go_enter Tryz.func75, Tryz.ntmps75
  go_wp2_with fail
  refine HF.out.mono ?_; rintro e w0 ⟨B, rfl, hB, hs, k0⟩
  have hbl := hbx.lt
  have hb0 := hbx.keeps k0
  go_wp2_with fail
  refine (l31Rule_any B w0 hs).mono ?_; rintro e w1 ⟨x, u, l, c1, rfl, hx, hu, hl1, hl2, hl3, d1⟩
  go_wp2_with fail
  refine (l31Some_any B w1 d1.2).mono ?_; rintro e w2 ⟨y, ims, rfl, ⟨o, l0, ho, hy⟩, hi1, hi2, d2⟩
  have hx2 := hx.dr d2 hs.lt
  have hu2 := hu.dr d2 hs.lt
  have hb2 := (hb0.drN d1 (by omega)).drN d2 (by omega)
  have kk := ka.trans (Dr.keepsOf k0 hB (d1.trans d2))
  obtain ⟨p1, n1, q1, rfl⟩ := hx2.shape3
  obtain ⟨p2, n2, q2, rfl⟩ := hu2.own_shape
  have g0 := hb2.grown0 (.slice p1 n1 q1)
  have hb3 := hb2.set0 (.slice p1 n1 q1)
  have g1 := hb3.grown1 (.slice p2 n2 q2)
  have hs0 : w.heap.size ≤ w0.heap.size := (ka.trans k0).size
  have hxF := ((hx2.boxed hb2 g0).boxed hb3 g1).mono hs0
  have huF := (hb3.drop (x := .slice p1 n1 q1) (hb2.drop (x := .slice p1 n1 q1) hu2 g0) g1).mono hs0
  have hoF := ((ho.boxed hb2 g0).boxed hb3 g1)
  have hyF : Pull w ((w2.setCell ⟨w.heap.size, 0, none⟩ (.slice p1 n1 q1)).setCell ⟨w.heap.size, 1, none⟩ (.slice p2 n2 q2)) y ims := ⟨w1.heap.size, o, l0, Nat.le_trans hs0 d1.size, hoF, hy⟩
  have kF := (kk.grown g0 (fun i e => by cases e; exact Nat.le_refl _)).grown g1 (fun i e => by cases e; exact Nat.le_refl _)
  have HF := hid (And.intro hxF (And.intro huF (And.intro hyF kF)))
  have x0 := hb2.cell0
  have x1 := hb2.cell1
  have y0 := hb2.froz0
  have y1 := hb2.froz1
  have r0 := (hb3.set1 (.slice p2 n2 q2)).cell0
  have r1 := (hb3.set1 (.slice p2 n2 q2)).cell1
  obtain ⟨p3, n3, q3, rfl⟩ := hyF.ndsL.shapeL
  clear hxF huF hyF kF hoF hb2 hb3 g0 g1 hx2 hu2 ho hy hx hu hb0 hbx kk ka
  go_wp2_with fail
  refine bodyPost_ret (v := .tuple #[.agg #[.slice p1 n1 q1, .slice p2 n2 q2], .slice p3 n3 q3]) (by simp [results, Tryz.results75, go_sem, r0, r1]) rfl ?_
  obtain ⟨hxF, huF, hyF, kF⟩ := HF.out
  exact ⟨_, _, _, l, c1, ims, rfl, hxF, huF, hyF, hl1, hl2, hl3, by omega, by omega, kF⟩
--
set_option maxRecDepth 20000 in
set_option maxHeartbeats 1000000 in
theorem drawBreaksRule_any (v : Value) (n : Nat) (w : World) (hv : Bts w v n) (hn : n ≤ 4096) : Calls Tryz.prog 15 #[v] w (DrawRI w) := by
  have ka := (Keeps.refl w).alloc (.cells #[.slice none 0 0, .slice none 0 0] 37)
  have hbx : BoxR (w.alloc (.cells #[.slice none 0 0, .slice none 0 0] 37)) w.heap.size (.slice none 0 0) (.slice none 0 0) := World.ownsRow_lit w #[.slice none 0 0, .slice none 0 0] 1 (Nat.le_refl _) (by simp [maxLen]) (by simp)
  have HF := hid (drawImageOfRule_any v n _ (hv.keeps ka) hn)
  obtain ⟨p, c, rfl, _⟩ := hv
  have hbl := hbx.lt
  have hsz := ka.size
  go_enter Tryz.func15, Tryz.ntmps15
  go_wp2_with fail
  refine HF.out.mono ?_; rintro e w2 ⟨x, u, y, l, c1, ims, rfl, hx, hu, hy, hl1, hl2, hl3, hi1, hi2, k2⟩
  have hb2 := hbx.keeps k2
  obtain ⟨p1, n1, q1, rfl⟩ := hx.shape3
  obtain ⟨p2, n2, q2, rfl⟩ := hu.own_shape
  have hb3 := hb2.set0 (.slice p1 n1 q1)
  have hxF := ((hx.setBelow (o := 0) hbl (.slice p1 n1 q1)).setBelow (o := 1) hbl (.slice p2 n2 q2)).mono hsz
  have huF := ((hu.setBelow (o := 0) hbl (.slice p1 n1 q1)).setBelow (o := 1) hbl (.slice p2 n2 q2)).mono hsz
  have hyF := (hy.setBelow (i := 0) hbl (Nat.le_refl _) (.slice p1 n1 q1)).setBelow (i := 1) hbl hsz (.slice p2 n2 q2)
  have kF := ((ka.trans k2).grown (hb2.grown0 (.slice p1 n1 q1)) (fun i e => by cases e; exact Nat.le_refl _)).grown (hb3.grown1 (.slice p2 n2 q2)) (fun i e => by cases e; exact Nat.le_refl _)
  obtain ⟨p3, n3, q3, rfl⟩ := hyF.ndsL.shapeL
  have HF := hid (And.intro hxF (And.intro huF (And.intro hyF kF)))
  have x0 := hb2.cell0
  have x1 := hb2.cell1
  have y0 := hb2.froz0
  have y1 := hb2.froz1
  have r0 := (hb3.set1 (.slice p2 n2 q2)).cell0
  have r1 := (hb3.set1 (.slice p2 n2 q2)).cell1
  clear hxF huF hyF kF hb2 hb3 hx hu hy hbx ka
  go_wp2_with fail
  refine bodyPost_ret (v := .tuple #[.agg #[.slice p1 n1 q1, .slice p2 n2 q2], .slice p3 n3 q3]) (by simp [results, Tryz.results15, go_sem, r0, r1]) rfl ?_
  obtain ⟨hxF, huF, hyF, kF⟩ := HF.out
  exact ⟨_, _, _, l, c1, ims, rfl, hxF, huF, hyF, hl1, hl2, hl3, hi1, hi2, kF⟩
--
set_option maxRecDepth 20000 in
set_option maxHeartbeats 1000000 in
theorem drawFindBreaking_any (v : Value) (n : Nat) (w : World) (hv : Bts w v n) (hn : n ≤ 4096) : Calls Tryz.prog 22 #[v] w (DrawRI w) := by
  have ka := (Keeps.refl w).alloc (.cells #[.slice none 0 0, .slice none 0 0] 37)
  have hbx : BoxR (w.alloc (.cells #[.slice none 0 0, .slice none 0 0] 37)) w.heap.size (.slice none 0 0) (.slice none 0 0) := World.ownsRow_lit w #[.slice none 0 0, .slice none 0 0] 1 (Nat.le_refl _) (by simp [maxLen]) (by simp)
  have HF := hid (l01From_any v n _ (hv.keeps ka) hn)
  obtain ⟨p, c, rfl, _⟩ := hv
  go_enter Tryz.func22, Tryz.ntmps22
  go_wp2_with fail
  refine HF.out.mono ?_; rintro e w0 ⟨B, rfl, hB, hs, k0⟩
  have hbl := hbx.lt
  have hb0 := hbx.keeps k0
  go_wp2_with fail
  refine (l31Rule_any B w0 hs).mono ?_; rintro e w1 ⟨x, u, l, c1, rfl, hx, hu, hl1, hl2, hl3, d1⟩
  go_wp2_with fail
  refine (l31Candidates_any B w1 d1.2).mono ?_; rintro e w2 ⟨y, ims, rfl, ho, hi1, hi2, d2⟩
  have hx2 := hx.dr d2 hs.lt
  have hu2 := hu.dr d2 hs.lt
  have hb2 := (hb0.drN d1 (by omega)).drN d2 (by omega)
  have kk := ka.trans (Dr.keepsOf k0 hB (d1.trans d2))
  obtain ⟨p1, n1, q1, rfl⟩ := hx2.shape3
  obtain ⟨p2, n2, q2, rfl⟩ := hu2.own_shape
  have g0 := hb2.grown0 (.slice p1 n1 q1)
  have hb3 := hb2.set0 (.slice p1 n1 q1)
  have g1 := hb3.grown1 (.slice p2 n2 q2)
  have hs0 : w.heap.size ≤ w0.heap.size := (ka.trans k0).size
  have hxF := ((hx2.boxed hb2 g0).boxed hb3 g1).mono hs0
  have huF := (hb3.drop (x := .slice p1 n1 q1) (hb2.drop (x := .slice p1 n1 q1) hu2 g0) g1).mono hs0
  have hoF := ((ho.boxed hb2 g0).boxed hb3 g1)
  have hyF : Pull w ((w2.setCell ⟨w.heap.size, 0, none⟩ (.slice p1 n1 q1)).setCell ⟨w.heap.size, 1, none⟩ (.slice p2 n2 q2)) y ims := ⟨w1.heap.size, y, ims, Nat.le_trans hs0 d1.size, hoF, fun w2 h => h.ndsL (by omega) (by omega)⟩
  have kF := (kk.grown g0 (fun i e => by cases e; exact Nat.le_refl _)).grown g1 (fun i e => by cases e; exact Nat.le_refl _)
  have HF := hid (And.intro hxF (And.intro huF (And.intro hyF kF)))
  have x0 := hb2.cell0
  have x1 := hb2.cell1
  have y0 := hb2.froz0
  have y1 := hb2.froz1
  have r0 := (hb3.set1 (.slice p2 n2 q2)).cell0
  have r1 := (hb3.set1 (.slice p2 n2 q2)).cell1
  obtain ⟨p3, n3, q3, rfl⟩ := hyF.ndsL.shapeL
  clear hxF huF hyF kF hoF hb2 hb3 g0 g1 hx2 hu2 ho hx hu hb0 hbx kk ka
  go_wp2_with fail
  refine bodyPost_ret (v := .tuple #[.agg #[.slice p1 n1 q1, .slice p2 n2 q2], .slice p3 n3 q3]) (by simp [results, Tryz.results22, go_sem, r0, r1]) rfl ?_
  obtain ⟨hxF, huF, hyF, kF⟩ := HF.out
  exact ⟨_, _, _, l, c1, ims, rfl, hxF, huF, hyF, hl1, hl2, hl3, by omega, by omega, kF⟩
end Go.Proofs.YtpbbfoliabgkpaaGreat
