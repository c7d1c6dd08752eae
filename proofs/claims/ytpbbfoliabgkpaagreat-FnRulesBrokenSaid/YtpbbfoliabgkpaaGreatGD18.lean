/- Draws of rules. -/
import Derived.Test.YtpbbfoliabgkpaaGreatGD17
import Derived.Test.YtpbbfoliabgkpaaGreatGSC
import Derived.Deep.CutBlock
import Derived.Deep.DeepCutAuto
namespace Go.Proofs.YtpbbfoliabgkpaaGreat
open Go.RowKit
theorem BoxR.drop {w : World} {R B : Nat} {p u v x : Value} {y : List Nd} (h : BoxR w R p u) (hl : OwnN w B v y) {w' : World} (k : w.grownBy w' (some R)) : OwnN w' B v y := by
  have _ := x
  exact hl.touch (Touch.grown k) (fun i e hi => by cases hi; exact h.offN hl e)
/-- the rule that is drawn, in its box -/
def RuleRel (w : World) (B m t : Nat) (wr : World) : Prop := ∃ p u, ∃ l : List (List Nd), ∃ c : List Nd, BoxR wr w.heap.size (.slice none 0 0) (.slice none 0 0) ∧ BoxR wr (w.heap.size + 1 + 1) p u ∧ OwnL wr w.heap.size p l ∧ OwnN wr w.heap.size u c ∧ l.length ≤ m ∧ tot l ≤ t ∧ c.length ≤ t ∧ Dr B w wr
theorem OwnR.parts {w : World} {B : Nat} {v u : Value} {xs : List (List Nd)} {c : List Nd} (h : OwnR w B v u xs c) : OwnL w B v xs ∧ OwnN w B u c := by
  obtain ⟨vs, ho, hr, ha, hf⟩ := h
  exact ⟨⟨vs, ho, hr.tail, fun i j hi hj hne => ha (i + 1) (j + 1) (by simpa using hi) (by simpa using hj) (by omega), off_rows ho hr.tail⟩, hr.head⟩
section
variable {w w2 : World} {B m t : Nat} {p u p' u' : Value} {l : List (List Nd)} {c : List Nd}
theorem ruleAt1 (hB : B < w.heap.size) (hb0 : BoxR w2 w.heap.size (.slice none 0 0) (.slice none 0 0)) (hb : BoxR w2 (w.heap.size + 1 + 1) p u) (hl : OwnL w2 w.heap.size p l) (hc : OwnN w2 w.heap.size u' c) (hm : l.length ≤ m) (ht : tot l ≤ t) (hct : c.length ≤ t) (D : Dr B w w2) :
    RuleRel w B m t (w2.setCell ⟨w.heap.size + 1 + 1, 1, none⟩ u') := by
  have g := hb.grown1 u'
  exact ⟨p, u', l, c, own_touch hb0 (Touch.grown g) (fun i e hi => by cases e; simp at hi; omega), hb.set1 u', hl.boxed hb g, hb.drop (x := p) hc g, hm, ht, hct, D.grown g (fun i e => by cases e; omega)⟩
theorem ruleAt0 (hB : B < w.heap.size) (hb0 : BoxR w2 w.heap.size (.slice none 0 0) (.slice none 0 0)) (hb : BoxR w2 (w.heap.size + 1 + 1) p u) (hl : OwnL w2 w.heap.size p' l) (hc : OwnN w2 w.heap.size u c) (hm : l.length ≤ m) (ht : tot l ≤ t) (hct : c.length ≤ t) (D : Dr B w w2) :
    RuleRel w B m t (w2.setCell ⟨w.heap.size + 1 + 1, 0, none⟩ p') := by
  have g := hb.grown0 p'
  exact ⟨p', u, l, c, own_touch hb0 (Touch.grown g) (fun i e hi => by cases e; simp at hi; omega), hb.set0 p', hl.boxed hb g, hb.drop (x := p) hc g, hm, ht, hct, D.grown g (fun i e => by cases e; omega)⟩
theorem ruleAt (hB : B < w.heap.size) (hb0 : BoxR w2 w.heap.size (.slice none 0 0) (.slice none 0 0)) (hb : BoxR w2 (w.heap.size + 1 + 1) p u) (hl : OwnL w2 w.heap.size p' l) (hc : OwnN w2 w.heap.size u' c) (hm : l.length ≤ m) (ht : tot l ≤ t) (hct : c.length ≤ t) (D : Dr B w w2) :
    RuleRel w B m t ((w2.setCell ⟨w.heap.size + 1 + 1, 0, none⟩ p').setCell ⟨w.heap.size + 1 + 1, 1, none⟩ u') := by
  have g := hb.grown0 p'
  have hb2 := hb.set0 p'
  exact ruleAt1 hB (own_touch hb0 (Touch.grown g) (fun i e hi => by cases e; simp at hi; omega)) hb2 (hl.boxed hb g) (hb.drop (x := p) hc g) hm ht hct (D.grown g (fun i e => by cases e; omega))
end
theorem draw_five (B r : Nat) (hr : r < 5) (w : World) (hs : Src w B) : Hid (Calls Tryz.prog 105 #[.pointer (some ⟨B, 0, none⟩), .int .i64 (IntKind.i64.wrap (1 + (r : Int))), .int .i64 3, .bool false] w (DrawN B (1 + r) w)) := by
  have HD := l02Draw_any B 3 (by omega) false (1 + r) (by omega) w hs
  have hc : ((1 + r : Nat) : Int) = 1 + (r : Int) := by omega
  rw [hc] at HD
  rw [Go.IntWalk.i64_in (1 + (r : Int)) (by omega)]
  exact HD
theorem OwnL.shape3 {w : World} {B : Nat} {v : Value} {xs : List (List Nd)} (h : OwnL w B v xs) : ∃ p n c, v = .slice p n c := by
  obtain ⟨p, c, e, _⟩ := h.len1
  exact ⟨p, _, c, e⟩
theorem OwnN.grownL {w w' : World} {B B' : Nat} {v v' : Value} {y : List Nd} {xs : List (List Nd)} (hc : OwnN w B v y) (hl : OwnL w B' v' xs) (k : w.grownBy w' v'.ownBlock) : OwnN w' B v y := by
  obtain ⟨vs, ho, _⟩ := hl
  exact hc.touch (Touch.grown k) (fun i e hi => type_ne ho hc tyne hi.symm e)
/-- what holds while the premises are drawn -/
def RuleLp (w : World) (B : Nat) (i' : Value) (wr : World) : Prop := ∃ k : Nat, k ≤ 2 ∧ i' = .int .i64 k ∧ RuleRel w B (2 - k) (20 - 10 * k) wr
/-- what holds while premises are filled up -/
def RuleSv (w : World) (B : Nat) (wr : World) : Prop := ∃ p u, ∃ l : List (List Nd), ∃ c : List Nd, BoxR wr w.heap.size (.slice none 0 0) (.slice none 0 0) ∧ BoxR wr (w.heap.size + 1 + 1) p u ∧ OwnL wr w.heap.size p l ∧ OwnN wr w.heap.size u c ∧ l.length ≤ 1000 ∧ tot l ≤ 1000 + l.length ∧ c.length ≤ 1000 ∧ Dr B w wr
theorem svAt0 {w w2 : World} {B : Nat} {p u p' : Value} {l : List (List Nd)} {c : List Nd} (hB : B < w.heap.size) (hb0 : BoxR w2 w.heap.size (.slice none 0 0) (.slice none 0 0)) (hb : BoxR w2 (w.heap.size + 1 + 1) p u) (hl : OwnL w2 w.heap.size p' l) (hc : OwnN w2 w.heap.size u c) (hm : l.length ≤ 1000) (ht : tot l ≤ 1000 + l.length) (hct : c.length ≤ 1000) (D : Dr B w w2) :
    RuleSv w B (w2.setCell ⟨w.heap.size + 1 + 1, 0, none⟩ p') := by
  have g := hb.grown0 p'
  exact ⟨p', u, l, c, own_touch hb0 (Touch.grown g) (fun i e hi => by cases e; simp at hi; omega), hb.set0 p', hl.boxed hb g, hb.drop (x := p) hc g, hm, ht, hct, D.grown g (fun i e => by cases e; omega)⟩
/-- a rule is drawn -/
def DrawR (B : Nat) (w : World) (e : Ending) (w' : World) : Prop := ∃ x u, ∃ l : List (List Nd), ∃ c : List Nd, e = .returned (.agg #[x, u]) ∧ OwnL w' w.heap.size x l ∧ OwnN w' w.heap.size u c ∧ l.length ≤ 1000 ∧ tot l ≤ 2000 ∧ c.length ≤ 2000 ∧ Dr B w w'
theorem OwnL.shape4 {w : World} {B : Nat} {v : Value} {xs : List (List Nd)} (h : OwnL w B v xs) : ∃ p n c, v = .slice p n c ∧ n = xs.length := by
  obtain ⟨p, c, e, _⟩ := h.len1
  exact ⟨p, _, c, e, rfl⟩
--
set_option maxRecDepth 20000 in
set_option maxHeartbeats 4000000 in
theorem l31Rule_any (B : Nat) (w : World) (hs : Src w B) : Calls Tryz.prog 97 #[.pointer (some ⟨B, 0, none⟩)] w (DrawR B w) := by
  have hB := hs.lt
  have k0 := (((Keeps.refl w).alloc (.cells #[.slice none 0 0, .slice none 0 0] 37)).alloc (.cells #[] 24)).alloc (.cells #[.slice (some ⟨w.heap.size + 1, 0, none⟩) 0 0, .slice none 0 0] 37)
  have D0 := Dr.of hs k0
  have hR0 : RuleRel w B 0 0 (((w.alloc (.cells #[.slice none 0 0, .slice none 0 0] 37)).alloc (.cells #[] 24)).alloc (.cells #[.slice (some ⟨w.heap.size + 1, 0, none⟩) 0 0, .slice none 0 0] 37)) := by
    refine ⟨.slice (some ⟨w.heap.size + 1, 0, none⟩) 0 0, .slice none 0 0, [], [], ?_, ?_, ?_, OwnN.nil _ _, by simp, by simp [tot], by simp, D0⟩
    · exact own_keeps (World.ownsRow_lit w #[.slice none 0 0, .slice none 0 0] 1 (Nat.le_refl _) (by simp [maxLen]) (by simp)) (((Keeps.refl _).alloc _).alloc _)
    · have h := World.ownsRow_lit (base := w.heap.size + 1 + 1) (e := 37) (size := 2) ((w.alloc (.cells #[.slice none 0 0, .slice none 0 0] 37)).alloc (.cells #[] 24)) #[.slice (some ⟨w.heap.size + 1, 0, none⟩) 0 0, .slice none 0 0] 1 (by simp) (by simp [maxLen]) (by simp)
      simpa [BoxR] using h
    · have h := OwnL.empty (w.alloc (.cells #[.slice none 0 0, .slice none 0 0] 37))
      rw [show (w.alloc (.cells #[.slice none 0 0, .slice none 0 0] 37)).heap.size = w.heap.size + 1 by simp] at h
      exact (h.mono (by omega)).keeps ((Keeps.refl _).alloc _)
  clear k0
  go_enter Tryz.func97, Tryz.ntmps97
  go_wp2_with fail
  generalize ((w.alloc (.cells #[.slice none 0 0, .slice none 0 0] 37)).alloc (.cells #[] 24)).alloc (.cells #[.slice (some ⟨w.heap.size + 1, 0, none⟩) 0 0, .slice none 0 0] 37) = w0 at *
  refine (l01Next_any 6 B _ D0.2 (by omega)).mono ?_; rintro e w1 ⟨r1, rfl, hr1, d1⟩
  go_upto_block 0 with fail
  go_cut [4] (fun _ wx => RuleRel w B 1000 1000 wx)
  case first =>
    obtain ⟨p, u, l, c, hb0, hb, hl, hc, hlm, hlt, hct, D1'⟩ := hR0
    have hb0' := hb0.dr d1 hB
    have hb' := hb.dr d1 (by omega)
    have D1 := D0.trans d1
    obtain rfl | rfl | h2 : r1 = 0 ∨ r1 = 1 ∨ 1 < r1 := by omega
    · go_wp2_with fail
      refine (specVisserRule_any 1 w1).mono ?_; rintro e w2 ⟨v2, u2, rfl, hR2, k2⟩
      obtain ⟨hl2, hc2⟩ := hR2.parts
      obtain ⟨p2, q2, rfl, _⟩ := hl2.len1
      obtain ⟨p3, n3, q3, rfl⟩ := hc2.own_shape
      have hb2 := hb'.keeps k2
      have x0 := hb2.cell0
      have x1 := hb2.cell1
      have y0 := hb2.froz0
      have y1 := hb2.froz1
      go_wp2_with fail
      go_meet
      exact ruleAt hB (hb0'.keeps k2) hb2 (hl2.mono D1.size) (hc2.mono D1.size) (by decide) (by decide) (by decide) (D1.keeps k2)
    · go_wp2_with fail
      refine (l01Next_any 3 B _ D1.2 (by omega)).mono ?_; rintro e w2 ⟨r2, rfl, hr2, d2⟩
      have D2 := D1.trans d2
      have hr2' : r2 < 3 := by omega
      have HD := hid (l02Draw_any B 2 (by omega) false (1 + r2) (by omega) w2 D2.2)
      have hc2 : ((1 + r2 : Nat) : Int) = 1 + (r2 : Int) := by omega
      rw [hc2] at HD
      go_wp2_with fail
      refine HD.out.mono ?_; rintro e w3 ⟨v3, t3, rfl, hv3, hl3, d3⟩
      have D3 := D2.trans d3
      obtain ⟨p3, n3, q3, rfl⟩ := hv3.own_shape
      obtain ⟨sl1, sl2⟩ := spl_len t3.enc
      go_wp2_with fail
      refine (specSplitO t3.enc _ w3 (hv3.nds (by omega))).mono ?_; rintro e w4 ⟨v4, u4, rfl, hl4, hc4, k4⟩
      have hb4 := ((hb'.dr d2 (by omega)).dr d3 (by omega)).keeps k4
      have hb04 := ((hb0'.dr d2 hB).dr d3 hB).keeps k4
      clear hv3
      obtain ⟨p5, q5, rfl, _⟩ := hl4.len1
      obtain ⟨p6, n6, q6, rfl⟩ := hc4.own_shape
      have x0 := hb4.cell0
      have x1 := hb4.cell1
      have y0 := hb4.froz0
      have y1 := hb4.froz1
      go_wp2_with fail
      go_meet
      exact ruleAt hB hb04 hb4 (hl4.mono D3.size) (hc4.mono D3.size) sl1 (by omega) (by omega) (D3.keeps k4)
    · have g0 : ((r1 : Nat) : Int) ≠ 0 := by omega
      have g1 : ((r1 : Nat) : Int) ≠ 1 := by omega
      go_wp2_with fail
      refine (l01Next_any 3 B _ D1.2 (by omega)).mono ?_; rintro e w2 ⟨r2, rfl, hr2, d2⟩
      have D2 := D1.trans d2
      have hr2' : r2 < 3 := by omega
      have hL0 : RuleLp w B (.int .i64 r2) w2 := ⟨r2, by omega, rfl, p, u, l, c, hb0'.dr d2 hB, hb'.dr d2 (by omega), (hl.dr d1 hB).dr d2 hB, (hc.dr d1 hB).dr d2 hB, by omega, by omega, by omega, D2⟩
      clear hb0 hb hl hc hb0' hb'
      go_wp2_with fail
      go_loopw [5] (fun i' wr => RuleLp w B i' wr) (fun i _ => (intOf i).toNat)
      case atStart => exact hL0
      case round =>
        obtain ⟨k, hk, rfl, p, u, l, c, hb0, hb, hl, hc, hlm, hlt, hct, D⟩ := hrel
        clear hL0
        obtain ⟨q, cap, rfl, _, hmx⟩ := hl.len1
        have hsz := D.size
        by_cases h0 : 0 < k
        · have h0' : (0 : Int) < k := by omega
          have kd := (Keeps.refl wr).drew
          have Dd := D.keeps kd
          have hbd := hb.keeps kd
          have hS0 := hid hbd.cell0
          go_wp2_with fail
          have z0 := hbd.cell0
          have z1 := hbd.froz0
          clear hS0
          go_region_law (first
            | (go_simp; go_at_call 68; refine (l01Next_any 5 B _ Dd.2 (by omega)).mono ?_; rintro e w5 ⟨r5, rfl, hr5, d5⟩; have D5 := Dd.trans d5; have hr5' : r5 < 5 := (by omega); have hb5 := hbd.dr d5 (by omega); have x5 := hb5.cell0; have HD := draw_five B r5 hr5' w5 D5.2)
            | (go_simp; go_at_call 105; refine HD.out.mono ?_; rintro e w6 ⟨v6, t6, rfl, hv6, hl6, d6⟩; have D6 := D5.trans d6; obtain ⟨p6, n6, q6, rfl⟩ := hv6.own_shape; have hb6 := hb5.dr d6 (by omega); have x6 := hb6.cell0; have ka := (Keeps.refl w6).alloc (.cells #[.slice p6 n6 q6] 24); have hv7 := hv6.keeps ka; have hat := At.lit1 w6 (.slice p6 n6 q6) 24; have tt := ((Touch.of_keeps kd (fun i => i = B)).trans (d5.trans d6).1).trans (Touch.of_keeps ka _); have D7 := D6.keeps ka; have hb7 := hb6.keeps ka; have x7 := hb7.cell0; clear hv6)
            | (refine stepLT rfl (.tmp 17) (.tmp 23) rfl w.heap.size _ l rfl wr B hl tt hB _ _ (hv7.mono d5.size) hsz _ _ rfl hat (by omega) ?_; intro v8 w8 hv8 hg8 hr8; have hb8 := hb7.grownL (hl.touched tt (fun i hi => by omega)) hg8; obtain ⟨p8, n8, q8, rfl⟩ := hv8.shape3; have x8 := hb8.cell0; have y8 := hb8.froz0))
          all_goals
            have hl7 := hl.touched tt (fun i hi => by omega)
            have hb08 := ((((hb0.keeps kd).dr d5 hB).dr d6 hB).keeps ka).grownL hl7 hg8
            have hc8 := ((((hc.keeps kd).dr d5 hB).dr d6 hB).keeps ka).grownL hl7 hg8
            have D8 := D7.grown hg8 (fun i e => by have := hr8 i e; omega)
            have hR8 : RuleRel w B (2 - (k - 1)) (20 - 10 * (k - 1)) _ := ruleAt0 hB hb08 hb8 hv8 hc8 (by simp; omega) (by rw [tot_snoc]; omega) (by omega) D8
            clear hb08 hc8 hl7 hb8 hv8 hl
            go_wp2_with fail
            go_roundw
            case rel => exact ⟨k - 1, by omega, by go_num, hR8⟩
            case measure => simp [intOf]; omega
        · obtain rfl : k = 0 := by omega
          go_wp2_with fail
          refine (l01Next_any 5 B wr D.2 (by omega)).mono ?_; rintro e w5 ⟨r5, rfl, hr5, d5⟩
          have D5 := D.trans d5
          have hr5' : r5 < 5 := by omega
          have HD := draw_five B r5 hr5' w5 D5.2
          rw [Go.IntWalk.i64_in (1 + (r5 : Int)) (by omega)] at HD
          go_wp2_with fail
          refine HD.out.mono ?_; rintro e w6 ⟨v6, t6, rfl, hv6, hl6, d6⟩
          have D6 := D5.trans d6
          obtain ⟨p6, n6, q6, rfl⟩ := hv6.own_shape
          have hb6 := (hb.dr d5 (by omega)).dr d6 (by omega)
          have hb06 := (hb0.dr d5 hB).dr d6 hB
          have hl6' := (hl.dr d5 hB).dr d6 hB
          have x0 := hb6.cell0
          have x1 := hb6.cell1
          have y1 := hb6.froz1
          have g6 := hb6.grown1 (.slice p6 n6 q6)
          have hb7 := hb6.set1 (.slice p6 n6 q6)
          have hb07 : BoxR (w6.setCell ⟨w.heap.size + 1 + 1, 1, none⟩ (.slice p6 n6 q6)) w.heap.size (.slice none 0 0) (.slice none 0 0) := own_touch hb06 (Touch.grown g6) (fun i e hi => by cases e; simp at hi; omega)
          have hl7 := hl6'.boxed hb6 g6
          have hc7 := hb6.drop (x := .slice p6 n6 q6) (hv6.mono (Nat.le_trans hsz d5.size)) g6
          have D7 := D6.grown g6 (fun i e => by cases e; omega)
          have z0 := hb7.cell0
          have z1 := hb7.cell1
          have zf := hb7.froz1
          clear hb hb0 hl hc hb6 hb06 hl6' hv6
          by_cases hp : 0 < l.length
          · have hp' : (0 : Int) < l.length := by omega
            go_wp2_with fail
            generalize w6.setCell ⟨w.heap.size + 1 + 1, 1, none⟩ (.slice p6 n6 q6) = w7 at *
            refine (l01Next_any 3 B w7 D7.2 (by omega)).mono ?_; rintro e w8 ⟨r8, rfl, hr8, d8⟩
            have D8 := D7.trans d8
            have hb8 := hb7.dr d8 (by omega)
            have hb08 := hb07.dr d8 hB
            have hl8 := hl7.dr d8 hB
            have hc8 := hc7.dr d8 hB
            clear hb7 hb07 hl7 hc7 z0 z1 zf x0 x1 y1
            by_cases hz : r8 = 0
            · subst hz
              obtain ⟨b, off, u0, rfl, hcu, hnu⟩ := (hl8.ndsL (by omega) (by omega)).get 0 hp
              simp only [Nat.add_zero] at hcu
              have hl0 : l[0].length ≤ 20 := by have := tot_mem l 0 hp; omega
              obtain ⟨p9, n9, q9, rfl⟩ := hnu.shape
              have kd := (Keeps.refl w8).drew
              have D9 := D8.keeps kd
              have hb9 := hb8.keeps kd
              have hb09 := hb08.keeps kd
              have hl9 := hl8.keeps kd
              have z0 := hb8.cell0
              have z1 := hb8.cell1
              clear hb8 hb08 hl8
              go_wp2_with fail
              have hnu9 := hnu.keeps kd
              have hc9 := hc8.keeps kd
              clear hnu hc8
              go_still_tail 6, (by kernel_rfl)
              change wpList _ _ _ _ _ w8.drew
              generalize w8.drew = w9 at *
              go_wp2_with fail
              refine (l02Pair_any 3 _ _ _ _ w9 hnu9 (hc9.nds (by omega)) (by omega)).mono ?_; rintro e w10 ⟨v10, rfl, hv10, k10⟩
              obtain ⟨p10, n10, q10, rfl⟩ := hv10.own_shape
              have hb10 := hb9.keeps k10
              have x0 := hb10.cell0
              have x1 := hb10.cell1
              have y1 := hb10.froz1
              go_wp2_with fail
              go_meet
              exact ruleAt1 hB (hb09.keeps k10) hb10 (hl9.keeps k10) (hv10.mono D9.size) (by omega) (by omega) (by simp; omega) (D9.keeps k10)
            · have hz' : ((r8 : Nat) : Int) ≠ 0 := by omega
              go_wp2_with fail
              go_meet
              exact ⟨_, _, l, _, hb08, hb8, hl8, hc8, by omega, by omega, by omega, D8⟩
          · have hp' : ¬ (0 : Int) < l.length := by omega
            go_wp2_with fail
            go_meet
            exact ⟨_, _, l, _, hb07, hb7, hl7, hc7, by omega, by omega, by omega, D7⟩
  case rest =>
    obtain ⟨p, u, l, c, hb0, hb, hl, hc, hlm, hlt, hct, D⟩ := hcut
    clear hR0 D0 d1 hr1
    go_wp2_with fail
    refine (l01Next_any 30 B wc D.2 (by omega)).mono ?_; rintro e w2 ⟨r2, rfl, hr2, d2⟩
    have D2 := D.trans d2
    have hb2 := hb.dr d2 (by omega)
    have hb02 := hb0.dr d2 hB
    have hl2 := hl.dr d2 hB
    have hc2 := hc.dr d2 hB
    have hsz := D2.size
    clear hb hb0 hl hc D
    go_upto_block 3 with fail
    go_cut [4] (fun _ wx => RuleRel w B 1000 2000 wx)
    case first =>
      obtain rfl | rfl | rfl | rfl | h4 : r2 = 0 ∨ r2 = 1 ∨ r2 = 2 ∨ r2 = 3 ∨ 3 < r2 := by omega
      · go_wp2_with fail
        refine (l02Var_any 0 _).mono ?_; rintro e w3 ⟨v3, rfl, hv3, k3⟩
        go_wp2_with fail
        refine (l02Pre_any 5 _ _ w3 (hv3.nds (by simp [Fm.enc])) (by simp [Fm.enc])).mono ?_; rintro e w4 ⟨v4, rfl, hv4, k4⟩
        obtain ⟨p4, n4, q4, rfl⟩ := hv4.own_shape
        have k24 := k3.trans k4
        have hb4 := hb2.keeps k24
        have x1 := hb4.cell1
        have y1 := hb4.froz1
        go_wp2_with fail
        go_meet
        exact ruleAt1 hB (hb02.keeps k24) hb4 (hl2.keeps k24) (hv4.mono (Nat.le_trans hsz k3.size)) hlm (by omega) (by simp [Fm.enc]) (D2.keeps k24)
      · have ka := (Keeps.refl w2).alloc (.cells #[] 55)
        have hn := OwnN.empty w2
        have hb4 := hb2.keeps ka
        have x1 := hb4.cell1
        have y1 := hb4.froz1
        go_wp2_with fail
        go_meet
        exact ruleAt1 hB (hb02.keeps ka) hb4 (hl2.keeps ka) (hn.mono hsz) hlm (by omega) (by simp) (D2.keeps ka)
      · have hSv : RuleSv w B w2 := ⟨p, u, l, c, hb02, hb2, hl2, hc2, hlm, by omega, hct, D2⟩
        clear hb02 hb2 hl2 hc2
        go_wp2_with fail
        go_loopw [83] (fun _ wr => RuleSv w B wr) (fun _ wr => 7 - lenV ((wr.cell? ⟨w.heap.size + 1 + 1, 0, none⟩).getD (.slice none 0 0)))
        case atStart => exact hSv
        case round =>
          obtain ⟨p, u, l, c, hb0, hb, hl, hc, hlm, hlt, hct, D⟩ := hrel
          clear hSv
          obtain ⟨q, cap, rfl, _, hmx⟩ := hl.len1
          have hsz := D.size
          have z0 := hb.cell0
          by_cases h7 : l.length < 7
          · have h7' : (l.length : Int) < 7 := by omega
            have kd := (Keeps.refl wr).drew
            have hbd := hb.keeps kd
            have zd := hbd.cell0
            go_wp2_with fail
            go_region_law (first
              | (go_simp; go_at_call 126; refine (l02Var_any 1 _).mono ?_; rintro e w6 ⟨v6, rfl, hv6, k6⟩; obtain ⟨p6, n6, q6, rfl⟩ := hv6.own_shape; have hb6 := hbd.keeps k6; have x6 := hb6.cell0; have ka := (Keeps.refl w6).alloc (.cells #[.slice p6 n6 q6] 24); have hv7 := hv6.keeps ka; have hat := At.lit1 w6 (.slice p6 n6 q6) 24; have kk := (kd.trans k6).trans ka; have hb7 := hb6.keeps ka; have x7 := hb7.cell0; clear hv6)
              | (refine stepLT rfl (.tmp 85) (.tmp 87) rfl w.heap.size _ l rfl wr B hl (Touch.of_keeps kk _) hB _ _ (hv7.mono kd.size) hsz _ _ rfl hat (by omega) ?_; intro v8 w8 hv8 hg8 hr8; have hb8 := hb7.grownL (hl.keeps kk) hg8; have hv8' := hv8; obtain ⟨p8, n8, q8, rfl, hn8⟩ := hv8.shape4; have HN8 := hid hn8; clear hn8; have x8 := hb8.cell0; have y8 := hb8.froz0))
            all_goals
              have hb08 := (hb0.keeps kk).grownL (hl.keeps kk) hg8
              have hc8 := (hc.keeps kk).grownL (hl.keeps kk) hg8
              have D8 := (D.keeps kk).grown hg8 (fun i e => by have := hr8 i e; omega)
              have hR8 := svAt0 hB hb08 hb8 hv8 hc8 (by simp; omega) (by rw [tot_snoc]; simp [Fm.enc]; omega) (by omega) D8
              have hx8 := (hb8.set0 (.slice p8 n8 q8)).cell0
              clear hb08 hc8 hb8 hv8 hv8' hl
              go_wp2_with fail
              go_roundw
              case rel => (repeat apply Exists.intro); exact ⟨hR8, rfl⟩
              case measure => rw [hx8, z0]; have := HN8.out; simp at this; simp [lenV]; omega
          · have h7' : ¬ (l.length : Int) < 7 := by omega
            go_wp2_with fail
            go_meet
            exact ⟨_, _, l, _, hb0, hb, hl, hc, hlm, by omega, by omega, D⟩
      · have HD := hid (l02Draw_any B 2 (by omega) false 24 (by omega) w2 D2.2)
        go_wp2_with fail
        refine HD.out.mono ?_; rintro e w6 ⟨v6, t6, rfl, hv6, hl6, d6⟩
        have D6 := D2.trans d6
        obtain ⟨p6, n6, q6, rfl⟩ := hv6.own_shape
        have hb6 := hb2.dr d6 (by omega)
        have x1 := hb6.cell1
        have y1 := hb6.froz1
        go_wp2_with fail
        go_meet
        exact ruleAt1 hB (hb02.dr d6 hB) hb6 (hl2.dr d6 hB) (hv6.mono hsz) hlm (by omega) (by omega) D6
      · have g0 : ((r2 : Nat) : Int) ≠ 0 := by omega
        have g1 : ((r2 : Nat) : Int) ≠ 1 := by omega
        have g2 : ((r2 : Nat) : Int) ≠ 2 := by omega
        have g3 : ((r2 : Nat) : Int) ≠ 3 := by omega
        go_wp2_with fail
        go_meet
        exact ⟨_, _, l, _, hb02, hb2, hl2, hc2, hlm, by omega, by omega, D2⟩
    case rest =>
      obtain ⟨p, u, l, c, hb0, hb, hl, hc, hlm, hlt, hct, D⟩ := hcut
      obtain ⟨p1, n1, q1, rfl⟩ := hl.shape3
      obtain ⟨p2, n2, q2, rfl⟩ := hc.own_shape
      have x0 := hb.cell0
      have x1 := hb.cell1
      have a0 := hb0.cell0
      have a1 := hb0.cell1
      have f0 := hb0.froz0
      have f1 := hb0.froz1
      have g0 := hb0.grown0 (.slice p1 n1 q1)
      have hb1 := hb0.set0 (.slice p1 n1 q1)
      have g1 := hb1.grown1 (.slice p2 n2 q2)
      have hlF := (hl.boxed hb0 g0).boxed hb1 g1
      have hcF := hb1.drop (x := .slice p1 n1 q1) (hb0.drop (x := .slice p1 n1 q1) hc g0) g1
      have DF := (D.grown g0 (fun i e => by cases e; omega)).grown g1 (fun i e => by cases e; omega)
      have HF := hid (And.intro hlF (And.intro hcF DF))
      have r0 := (hb1.set1 (.slice p2 n2 q2)).cell0
      have r1' := (hb1.set1 (.slice p2 n2 q2)).cell1
      clear hb1 hlF hcF DF hb hb0 hl hc D g0 g1
      go_wp2_with fail
      refine bodyPost_ret (v := .agg #[.slice p1 n1 q1, .slice p2 n2 q2]) (by simp [results, Tryz.results97, go_sem, r0, r1']) rfl ?_
      obtain ⟨hlF, hcF, DF⟩ := HF.out
      exact ⟨_, _, l, c, rfl, hlF, hcF, hlm, hlt, hct, DF⟩
end Go.Proofs.YtpbbfoliabgkpaaGreat
