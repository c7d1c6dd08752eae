import Derived.Test.YtkkcfifnkcnceaaGreatHMQ
import Derived.Test.YtkkcfifnkcnceaaGreatHRN
import Derived.Test.YtkkcfifnkcnceaaGreatHV5
import Derived.Test.YtkkcfifnkcnceaaGreatHW7
/- The program's reader at whatever place of whatever text. -/
namespace Go.Proofs.YtkkcfifnkcnceaaGreat
open Go.RowKit
set_option maxRecDepth 20000 in
set_option maxHeartbeats 4000000 in
theorem iAtomA (m : Nat) (hi : ∀ m', m' < m → ReadA 155 m') : ReadA 228 m := by
 intro w r s i bad h hS hm
 have HM := hid hi; clear hi
 have hr := h.lt
 go_enter Tryz.func228, Tryz.ntmps228
 have HT70 := hid (take_any (k := 70) 70 h rfl)
 go_wp2_with fail
 refine HT70.out.mono ?_; rintro e wa (⟨rfl, rfl, hib, ha, ga⟩ | ⟨rfl, hq70, kq70⟩)
 ·have g0 := ga
  go_wp2_with fail
  refine (falsum_any _).mono ?_; rintro e wb ⟨vb, rfl, hvb, kb⟩
  go_wp2_with fail
  go_ret
  exact ⟨_, Fm.fls, i + 1, false, rfl, (by simp [Fm.wf]), hvb.mono g0.size, ha.keeps kb, by omega, (by simp [Fm.enc]; try omega), grown_keeps g0 kb⟩
 ·skip
  have HT84 := hid (take_any (k := 84) 84 hq70 rfl)
  go_wp2_with fail
  refine HT84.out.mono ?_; rintro e wa (⟨rfl, rfl, hib, ha, ga⟩ | ⟨rfl, hq84, kq84⟩)
  ·have g0 := grown_pre0 kq70 ga
   go_wp2_with fail
   refine (truth_any _).mono ?_; rintro e wb ⟨vb, rfl, hvb, kb⟩
   go_wp2_with fail
   go_ret
   exact ⟨_, Fm.imp .fls .fls, i + 1, false, rfl, (by simp [Fm.wf]), hvb.mono g0.size, ha.keeps kb, by omega, (by simp [Fm.enc]; try omega), grown_keeps g0 kb⟩
  ·skip
   have HT40 := hid (take_any (k := 40) 40 hq84 rfl)
   go_wp2_with fail
   refine HT40.out.mono ?_; rintro e wa (⟨rfl, rfl, hib, ha, ga⟩ | ⟨rfl, hq40, kq40⟩)
   ·have g0 := grown_pre0 (kq70.trans kq84) ga
    have HY := hid (HM.out (s.size - (i + 1)) (by omega) wa r s (i + 1) false ha hS (Nat.le_refl _))
    have hra := ha.lt
    go_wp2_with fail
    refine HY.out.mono ?_; rintro e wb ⟨vb, tb, jb, bb, rfl, hwb, hvb, hb, hjb, hlb, gb⟩
    have HN := hid (iNeedA (k := 41) 41 hb rfl)
    go_wp2_with fail
    refine HN.out.mono ?_; rintro e wn ⟨jn, bn, rfl, hjn, hn, gn⟩
    go_wp2_with fail
    go_ret
    exact ⟨_, tb, jn, bn, rfl, hwb, (hvb.grown gn hra).mono g0.size, hn, by omega, by omega, grown_trans g0 (grown_trans gb gn)⟩
   ·skip
    have hqz := hq40
    have kz := ((kq70.trans kq84).trans kq40)
    go_wp2_with fail
    go_loopw [4] (fun _ wr => ∃ q : Nat, q ≤ 6 ∧ wr.heap[wa.heap.size]? = some (.stringIter letters6 q) ∧ Keeps wa wr) (fun _ wr => 6 - wr.iterPos wa.heap.size)
    case atStart => exact ⟨0, by omega, World.iter_heap .., (Keeps.refl wa).alloc _⟩
    case round =>
     obtain ⟨q, hqv, hit, kj⟩ := hrel
     have hgl : wa.heap.size < wr.heap.size := (Array.getElem?_eq_some_iff.1 hit).1
     have hq6 : q = 0 ∨ q = 1 ∨ q = 2 ∨ q = 3 ∨ q = 4 ∨ q = 5 ∨ q = 6 := by omega
     rcases hq6 with rfl | rfl | rfl | rfl | rfl | rfl | rfl
     ·have hnx : ∀ ty, (Instr.next (.pointer (some ⟨wa.heap.size, 0, none⟩)) true ty).run Tryz.prog wr = _ := fun ty => run_next_at wr _ letters6 0 ty hit (by decide) (by decide)
      have k5 := kj.grown (grown_iter wr wa.heap.size letters6 (0 + 1)) (fun k hk => by cases hk; omega)
      have hi5 := iter_at (s' := letters6) (p' := 0 + 1) hgl
      have hit0 := hit
      have hs5 : (setIter wr wa.heap.size letters6 (0 + 1)).heap.size = wr.heap.size := by simp [setIter]
      have HM1 := hid (take_any (k := 112) 112 (hqz.keeps k5) rfl)
      clear hit
      go_wp2_with fail
      refine HM1.out.mono ?_; rintro e w6 (⟨rfl, rfl, hib, h6, g6⟩ | ⟨rfl, h6, k6⟩)
      ·have gg := grown_pre0 (kz.trans k5) g6
       go_wp2_with fail
       refine (variable_any 0 _).mono ?_; rintro e w7 ⟨v7, rfl, hv7, k7⟩
       go_wp2_with fail
       go_ret
       exact ⟨_, Fm.var 0, i + 1, false, rfl, (by simp [Fm.wf]), hv7.mono gg.size, h6.keeps k7, by omega, (by simp [Fm.enc]), grown_keeps gg k7⟩
      ·have hi6 : w6.heap[wa.heap.size]? = some (.stringIter letters6 (0 + 1)) := (k6.block (by omega)).trans hi5
       go_wp2_with fail
       go_roundw
       case rel => exact ⟨0 + 1, by omega, hi6, k5.trans k6⟩
       case measure => simp [World.iterPos, hi6, hit0]
     ·have hnx : ∀ ty, (Instr.next (.pointer (some ⟨wa.heap.size, 0, none⟩)) true ty).run Tryz.prog wr = _ := fun ty => run_next_at wr _ letters6 1 ty hit (by decide) (by decide)
      have k5 := kj.grown (grown_iter wr wa.heap.size letters6 (1 + 1)) (fun k hk => by cases hk; omega)
      have hi5 := iter_at (s' := letters6) (p' := 1 + 1) hgl
      have hit0 := hit
      have hs5 : (setIter wr wa.heap.size letters6 (1 + 1)).heap.size = wr.heap.size := by simp [setIter]
      have HM1 := hid (take_any (k := 113) 113 (hqz.keeps k5) rfl)
      clear hit
      go_wp2_with fail
      refine HM1.out.mono ?_; rintro e w6 (⟨rfl, rfl, hib, h6, g6⟩ | ⟨rfl, h6, k6⟩)
      ·have gg := grown_pre0 (kz.trans k5) g6
       go_wp2_with fail
       refine (variable_any 1 _).mono ?_; rintro e w7 ⟨v7, rfl, hv7, k7⟩
       go_wp2_with fail
       go_ret
       exact ⟨_, Fm.var 1, i + 1, false, rfl, (by simp [Fm.wf]), hv7.mono gg.size, h6.keeps k7, by omega, (by simp [Fm.enc]), grown_keeps gg k7⟩
      ·have hi6 : w6.heap[wa.heap.size]? = some (.stringIter letters6 (1 + 1)) := (k6.block (by omega)).trans hi5
       go_wp2_with fail
       go_roundw
       case rel => exact ⟨1 + 1, by omega, hi6, k5.trans k6⟩
       case measure => simp [World.iterPos, hi6, hit0]
     ·have hnx : ∀ ty, (Instr.next (.pointer (some ⟨wa.heap.size, 0, none⟩)) true ty).run Tryz.prog wr = _ := fun ty => run_next_at wr _ letters6 2 ty hit (by decide) (by decide)
      have k5 := kj.grown (grown_iter wr wa.heap.size letters6 (2 + 1)) (fun k hk => by cases hk; omega)
      have hi5 := iter_at (s' := letters6) (p' := 2 + 1) hgl
      have hit0 := hit
      have hs5 : (setIter wr wa.heap.size letters6 (2 + 1)).heap.size = wr.heap.size := by simp [setIter]
      have HM1 := hid (take_any (k := 114) 114 (hqz.keeps k5) rfl)
      clear hit
      go_wp2_with fail
      refine HM1.out.mono ?_; rintro e w6 (⟨rfl, rfl, hib, h6, g6⟩ | ⟨rfl, h6, k6⟩)
      ·have gg := grown_pre0 (kz.trans k5) g6
       go_wp2_with fail
       refine (variable_any 2 _).mono ?_; rintro e w7 ⟨v7, rfl, hv7, k7⟩
       go_wp2_with fail
       go_ret
       exact ⟨_, Fm.var 2, i + 1, false, rfl, (by simp [Fm.wf]), hv7.mono gg.size, h6.keeps k7, by omega, (by simp [Fm.enc]), grown_keeps gg k7⟩
      ·have hi6 : w6.heap[wa.heap.size]? = some (.stringIter letters6 (2 + 1)) := (k6.block (by omega)).trans hi5
       go_wp2_with fail
       go_roundw
       case rel => exact ⟨2 + 1, by omega, hi6, k5.trans k6⟩
       case measure => simp [World.iterPos, hi6, hit0]
     ·have hnx : ∀ ty, (Instr.next (.pointer (some ⟨wa.heap.size, 0, none⟩)) true ty).run Tryz.prog wr = _ := fun ty => run_next_at wr _ letters6 3 ty hit (by decide) (by decide)
      have k5 := kj.grown (grown_iter wr wa.heap.size letters6 (3 + 1)) (fun k hk => by cases hk; omega)
      have hi5 := iter_at (s' := letters6) (p' := 3 + 1) hgl
      have hit0 := hit
      have hs5 : (setIter wr wa.heap.size letters6 (3 + 1)).heap.size = wr.heap.size := by simp [setIter]
      have HM1 := hid (take_any (k := 115) 115 (hqz.keeps k5) rfl)
      clear hit
      go_wp2_with fail
      refine HM1.out.mono ?_; rintro e w6 (⟨rfl, rfl, hib, h6, g6⟩ | ⟨rfl, h6, k6⟩)
      ·have gg := grown_pre0 (kz.trans k5) g6
       go_wp2_with fail
       refine (variable_any 3 _).mono ?_; rintro e w7 ⟨v7, rfl, hv7, k7⟩
       go_wp2_with fail
       go_ret
       exact ⟨_, Fm.var 3, i + 1, false, rfl, (by simp [Fm.wf]), hv7.mono gg.size, h6.keeps k7, by omega, (by simp [Fm.enc]), grown_keeps gg k7⟩
      ·have hi6 : w6.heap[wa.heap.size]? = some (.stringIter letters6 (3 + 1)) := (k6.block (by omega)).trans hi5
       go_wp2_with fail
       go_roundw
       case rel => exact ⟨3 + 1, by omega, hi6, k5.trans k6⟩
       case measure => simp [World.iterPos, hi6, hit0]
     ·have hnx : ∀ ty, (Instr.next (.pointer (some ⟨wa.heap.size, 0, none⟩)) true ty).run Tryz.prog wr = _ := fun ty => run_next_at wr _ letters6 4 ty hit (by decide) (by decide)
      have k5 := kj.grown (grown_iter wr wa.heap.size letters6 (4 + 1)) (fun k hk => by cases hk; omega)
      have hi5 := iter_at (s' := letters6) (p' := 4 + 1) hgl
      have hit0 := hit
      have hs5 : (setIter wr wa.heap.size letters6 (4 + 1)).heap.size = wr.heap.size := by simp [setIter]
      have HM1 := hid (take_any (k := 116) 116 (hqz.keeps k5) rfl)
      clear hit
      go_wp2_with fail
      refine HM1.out.mono ?_; rintro e w6 (⟨rfl, rfl, hib, h6, g6⟩ | ⟨rfl, h6, k6⟩)
      ·have gg := grown_pre0 (kz.trans k5) g6
       go_wp2_with fail
       refine (variable_any 4 _).mono ?_; rintro e w7 ⟨v7, rfl, hv7, k7⟩
       go_wp2_with fail
       go_ret
       exact ⟨_, Fm.var 4, i + 1, false, rfl, (by simp [Fm.wf]), hv7.mono gg.size, h6.keeps k7, by omega, (by simp [Fm.enc]), grown_keeps gg k7⟩
      ·have hi6 : w6.heap[wa.heap.size]? = some (.stringIter letters6 (4 + 1)) := (k6.block (by omega)).trans hi5
       go_wp2_with fail
       go_roundw
       case rel => exact ⟨4 + 1, by omega, hi6, k5.trans k6⟩
       case measure => simp [World.iterPos, hi6, hit0]
     ·have hnx : ∀ ty, (Instr.next (.pointer (some ⟨wa.heap.size, 0, none⟩)) true ty).run Tryz.prog wr = _ := fun ty => run_next_at wr _ letters6 5 ty hit (by decide) (by decide)
      have k5 := kj.grown (grown_iter wr wa.heap.size letters6 (5 + 1)) (fun k hk => by cases hk; omega)
      have hi5 := iter_at (s' := letters6) (p' := 5 + 1) hgl
      have hit0 := hit
      have hs5 : (setIter wr wa.heap.size letters6 (5 + 1)).heap.size = wr.heap.size := by simp [setIter]
      have HM1 := hid (take_any (k := 117) 117 (hqz.keeps k5) rfl)
      clear hit
      go_wp2_with fail
      refine HM1.out.mono ?_; rintro e w6 (⟨rfl, rfl, hib, h6, g6⟩ | ⟨rfl, h6, k6⟩)
      ·have gg := grown_pre0 (kz.trans k5) g6
       go_wp2_with fail
       refine (variable_any 5 _).mono ?_; rintro e w7 ⟨v7, rfl, hv7, k7⟩
       go_wp2_with fail
       go_ret
       exact ⟨_, Fm.var 5, i + 1, false, rfl, (by simp [Fm.wf]), hv7.mono gg.size, h6.keeps k7, by omega, (by simp [Fm.enc]), grown_keeps gg k7⟩
      ·have hi6 : w6.heap[wa.heap.size]? = some (.stringIter letters6 (5 + 1)) := (k6.block (by omega)).trans hi5
       go_wp2_with fail
       go_roundw
       case rel => exact ⟨5 + 1, by omega, hi6, k5.trans k6⟩
       case measure => simp [World.iterPos, hi6, hit0]
     ·have hnx : ∀ ty, (Instr.next (.pointer (some ⟨wa.heap.size, 0, none⟩)) true ty).run Tryz.prog wr = _ := fun ty => run_next_end_at wr _ letters6 6 ty hit (by decide)
      have h7 := hqz.keeps kj
      have hs := h7.spoiled
      obtain ⟨c0, c1, c2, f1, f2, le, sz⟩ := h7
      clear hit
      have gg := grown_pre0 (kz.trans kj) (grown_set r 2 (.bool true))
      go_wp2_with fail
      refine (falsum_any _).mono ?_; rintro e w7 ⟨v7, rfl, hv7, k7⟩
      go_wp2_with fail
      go_ret
      exact ⟨_, Fm.fls, i, true, rfl, trivial, hv7.mono gg.size, hs.keeps k7, Nat.le_refl _, (by simp [Fm.enc]), grown_keeps gg k7⟩
set_option maxRecDepth 20000 in
set_option maxHeartbeats 4000000 in
theorem iPrefixA (m : Nat) (ha0 : ReadA 228 m) (hi : ∀ m', m' < m → ReadA 219 m') : ReadA 219 m := by
 intro w r s i bad h hS hm
 have HI := hid hi; clear hi
 have hr := h.lt
 go_enter Tryz.func219, Tryz.ntmps219
 have HT126 := hid (take_any (k := 126) 126 h rfl)
 go_wp2_with fail
 refine HT126.out.mono ?_; rintro e wa (⟨rfl, rfl, hib, ha, ga⟩ | ⟨rfl, hq126, kq126⟩)
 ·have g0 := ga
  have HY := hid (HI.out (s.size - (i + 1)) (by omega) wa r s (i + 1) false ha hS (Nat.le_refl _))
  go_wp2_with fail
  refine HY.out.mono ?_; rintro e wb ⟨vb, tb, jb, bb, rfl, hwb, hvb, hb, hjb, hlb, gb⟩
  have gg := grown_trans g0 gb
  have hle := hb.le
  go_wp2_with fail
  refine (negation_any tb _ _ (hvb.nds (by omega)) (by omega)).mono ?_; rintro e wc ⟨vc, rfl, hvc, kc⟩
  go_wp2_with fail
  go_ret
  exact ⟨_, Fm.imp tb .fls, jb, bb, rfl, ⟨hwb, trivial⟩, hvc.mono gg.size, hb.keeps kc, by omega, (by simp only [Fm.enc, List.length_cons, List.length_append, List.length_nil]; omega), grown_keeps gg kc⟩
 ·skip
  have HT91 := hid (take_any (k := 91) 91 hq126 rfl)
  go_wp2_with fail
  refine HT91.out.mono ?_; rintro e wa (⟨rfl, rfl, hib, ha, ga⟩ | ⟨rfl, hq91, kq91⟩)
  ·have g0 := grown_pre0 kq126 ga
   have HN := hid (iNeedA (k := 93) 93 ha rfl)
   go_wp2_with fail
   refine HN.out.mono ?_; rintro e wn ⟨jn, bn, rfl, hjn, hn, gn⟩
   have hlen := hn.le
   have HY := hid (HI.out (s.size - jn) (by omega) wn r s jn bn hn hS (Nat.le_refl _))
   go_wp2_with fail
   refine HY.out.mono ?_; rintro e wb ⟨vb, tb, jb, bb, rfl, hwb, hvb, hb, hjb, hlb, gb⟩
   have gg := grown_trans g0 (grown_trans gn gb)
   have hle := hb.le
   go_wp2_with fail
   refine (prefix_any 5 _ _ _ (hvb.nds (by omega)) (by omega)).mono ?_; rintro e wc ⟨vc, rfl, hvc, kc⟩
   go_wp2_with fail
   go_ret
   exact ⟨_, Fm.box tb, jb, bb, rfl, hwb, hvc.mono gg.size, hb.keeps kc, by omega, (by simp only [Fm.enc, List.length_cons]; omega), grown_keeps gg kc⟩
  ·skip
   have HT60 := hid (take_any (k := 60) 60 hq91 rfl)
   go_wp2_with fail
   refine HT60.out.mono ?_; rintro e wa (⟨rfl, rfl, hib, ha, ga⟩ | ⟨rfl, hq60, kq60⟩)
   ·have g0 := grown_pre0 (kq126.trans kq91) ga
    have HN := hid (iNeedA (k := 62) 62 ha rfl)
    go_wp2_with fail
    refine HN.out.mono ?_; rintro e wn ⟨jn, bn, rfl, hjn, hn, gn⟩
    have hlen := hn.le
    have HY := hid (HI.out (s.size - jn) (by omega) wn r s jn bn hn hS (Nat.le_refl _))
    go_wp2_with fail
    refine HY.out.mono ?_; rintro e wb ⟨vb, tb, jb, bb, rfl, hwb, hvb, hb, hjb, hlb, gb⟩
    have gg := grown_trans g0 (grown_trans gn gb)
    have hle := hb.le
    go_wp2_with fail
    refine (prefix_any 6 _ _ _ (hvb.nds (by omega)) (by omega)).mono ?_; rintro e wc ⟨vc, rfl, hvc, kc⟩
    go_wp2_with fail
    go_ret
    exact ⟨_, Fm.dia tb, jb, bb, rfl, hwb, hvc.mono gg.size, hb.keeps kc, by omega, (by simp only [Fm.enc, List.length_cons]; omega), grown_keeps gg kc⟩
   ·skip
    have HA := hid (ha0 _ r s i bad hq60 hS hm)
    clear ha0
    have kz := ((kq126.trans kq91).trans kq60)
    go_wp2_with fail
    refine HA.out.mono ?_; rintro e wb ⟨vb, tb, jb, bb, rfl, hwb, hvb, hb, hjb, hlb, gb⟩
    go_wp2_with fail
    go_ret
    exact ⟨_, tb, jb, bb, rfl, hwb, hvb.mono kz.size, hb, hjb, hlb, grown_pre0 kz gb⟩
set_option maxRecDepth 20000 in
set_option maxHeartbeats 2000000 in
theorem iAndA (m : Nat) (hp : ReadA 219 m) : ReadA 212 m := by
 intro w r s i bad h hS hm
 have HP := hid hp; clear hp
 have hr := h.lt
 have H0 := hid (HP.out w r s i bad h hS hm)
 clear h
 go_enter Tryz.func212, Tryz.ntmps212
 go_wp2_with fail
 refine H0.out.mono ?_; rintro e w1 ⟨v1, t1, j1, b1, rfl, hw1, hv1, h1, hj1, hl1, g1⟩
 clear H0
 go_wp2_with fail
 go_loopw [3] (fun a' wr => LoopA w r s i a' wr) (fun _ wr => match wr.cell? ⟨r, 1, none⟩ with | some (.int _ n) => s.size - n.toNat | _ => 0)
 case atStart => exact ⟨t1, j1, b1, hw1, hv1, h1, hj1, hl1, g1⟩
 case round =>
  obtain ⟨t, j, b, hw, hacc, hj, hij, hl, gj⟩ := hrel
  clear hw1 hv1 h1 hj1 hl1 g1
  have HT := hid (take_any (k := 38) 38 hj rfl)
  have hle := hj.le
  go_wp2_with fail
  refine HT.out.mono ?_; rintro e w2 (⟨rfl, rfl, hi2, h2, g2⟩ | ⟨rfl, h2, k2⟩)
  ·have hacc2 := hacc.grown g2 hr
   have HY := hid (HP.out w2 r s (j + 1) false h2 hS (by omega))
   clear hacc
   go_wp2_with fail
   refine HY.out.mono ?_; rintro e w3 ⟨v3, t3, j3, b3, rfl, hw3, hv3, h3, hj3, hl3, g3⟩
   have hacc3 := hacc2.grown g3 hr
   have hs2 := gj.size
   have hs3 := g2.size
   have hs4 := g3.size
   have gw3 := grown_trans gj (grown_trans g2 g3)
   have hle3 := h3.le
   go_wp2_with fail
   refine (join_any _ _ _ _ _ _ (hacc3.nds (by omega)) (hv3.nds (by omega)) (by omega)).mono ?_; rintro e w4 ⟨v4, rfl, hv4, k4⟩
   have h4 := h3.keeps k4
   go_wp2_with fail
   go_roundw
   case rel => exact ⟨Fm.and t t3, j3, b3, ⟨hw, hw3⟩, hv4.mono (by omega), h4, by omega, (by simp only [Fm.enc, List.length_cons, List.length_append]; omega), grown_keeps gw3 k4⟩
   case measure =>
    have e1 := hj.c1
    have e2 := h4.c1
    simp [e1, e2]
    omega
  ·go_wp2_with fail
   go_ret
   exact ⟨_, t, j, b, rfl, hw, hacc.keeps k2, h2, hij, hl, grown_keeps gj k2⟩
set_option maxRecDepth 20000 in
set_option maxHeartbeats 2000000 in
theorem iOrA (m : Nat) (hp : ReadA 212 m) : ReadA 194 m := by
 intro w r s i bad h hS hm
 have HP := hid hp; clear hp
 have hr := h.lt
 have H0 := hid (HP.out w r s i bad h hS hm)
 clear h
 go_enter Tryz.func194, Tryz.ntmps194
 go_wp2_with fail
 refine H0.out.mono ?_; rintro e w1 ⟨v1, t1, j1, b1, rfl, hw1, hv1, h1, hj1, hl1, g1⟩
 clear H0
 go_wp2_with fail
 go_loopw [3] (fun a' wr => LoopA w r s i a' wr) (fun _ wr => match wr.cell? ⟨r, 1, none⟩ with | some (.int _ n) => s.size - n.toNat | _ => 0)
 case atStart => exact ⟨t1, j1, b1, hw1, hv1, h1, hj1, hl1, g1⟩
 case round =>
  obtain ⟨t, j, b, hw, hacc, hj, hij, hl, gj⟩ := hrel
  clear hw1 hv1 h1 hj1 hl1 g1
  have HT := hid (take_any (k := 124) 124 hj rfl)
  have hle := hj.le
  go_wp2_with fail
  refine HT.out.mono ?_; rintro e w2 (⟨rfl, rfl, hi2, h2, g2⟩ | ⟨rfl, h2, k2⟩)
  ·have hacc2 := hacc.grown g2 hr
   have HY := hid (HP.out w2 r s (j + 1) false h2 hS (by omega))
   clear hacc
   go_wp2_with fail
   refine HY.out.mono ?_; rintro e w3 ⟨v3, t3, j3, b3, rfl, hw3, hv3, h3, hj3, hl3, g3⟩
   have hacc3 := hacc2.grown g3 hr
   have hs2 := gj.size
   have hs3 := g2.size
   have hs4 := g3.size
   have gw3 := grown_trans gj (grown_trans g2 g3)
   have hle3 := h3.le
   go_wp2_with fail
   refine (join_any _ _ _ _ _ _ (hacc3.nds (by omega)) (hv3.nds (by omega)) (by omega)).mono ?_; rintro e w4 ⟨v4, rfl, hv4, k4⟩
   have h4 := h3.keeps k4
   go_wp2_with fail
   go_roundw
   case rel => exact ⟨Fm.or t t3, j3, b3, ⟨hw, hw3⟩, hv4.mono (by omega), h4, by omega, (by simp only [Fm.enc, List.length_cons, List.length_append]; omega), grown_keeps gw3 k4⟩
   case measure =>
    have e1 := hj.c1
    have e2 := h4.c1
    simp [e1, e2]
    omega
  ·go_wp2_with fail
   go_ret
   exact ⟨_, t, j, b, rfl, hw, hacc.keeps k2, h2, hij, hl, grown_keeps gj k2⟩
set_option maxRecDepth 20000 in
set_option maxHeartbeats 2000000 in
theorem iImplyA (m : Nat) (hp : ReadA 194 m) (hi : ∀ m', m' < m → ReadA 155 m') : ReadA 155 m := by
 intro w r s i bad h hS hm
 have HI := hid hi; clear hi
 have hr := h.lt
 have H0 := hid (hp w r s i bad h hS hm)
 clear h hp
 go_enter Tryz.func155, Tryz.ntmps155
 go_wp2_with fail
 refine H0.out.mono ?_; rintro e w1 ⟨v1, t1, j1, b1, rfl, hw1, hv1, h1, hj1, hl1, g1⟩
 clear H0
 have HT := hid (take_any (k := 62) 62 h1 rfl)
 go_wp2_with fail
 refine HT.out.mono ?_; rintro e w2 (⟨rfl, rfl, hi2, h2, g2⟩ | ⟨rfl, h2, k2⟩)
 ·have HY := hid (HI.out (s.size - (j1 + 1)) (by omega) w2 r s (j1 + 1) false h2 hS (Nat.le_refl _))
  go_wp2_with fail
  refine HY.out.mono ?_; rintro e w3 ⟨v3, t3, j3, b3, rfl, hw3, hv3, h3, hj3, hl3, g3⟩
  have hv13 := (hv1.grown g2 hr).grown g3 hr
  have gw3 := grown_trans g1 (grown_trans g2 g3)
  have hle3 := h3.le
  go_wp2_with fail
  refine (join_any _ _ _ _ _ _ (hv13.nds (by omega)) (hv3.nds (by omega)) (by omega)).mono ?_; rintro e w4 ⟨v4, rfl, hv4, k4⟩
  go_wp2_with fail
  go_ret
  exact ⟨_, Fm.imp t1 t3, j3, b3, rfl, ⟨hw1, hw3⟩, hv4.mono gw3.size, h3.keeps k4, by omega, (by simp only [Fm.enc, List.length_cons, List.length_append]; omega), grown_keeps gw3 k4⟩
 ·go_wp2_with fail
  go_ret
  exact ⟨_, t1, j1, b1, rfl, hw1, hv1.keeps k2, h2, hj1, hl1, grown_keeps g1 k2⟩
theorem implReadA (m : Nat) : ReadA 155 m ∧ ReadA 219 m := by
 induction m using Nat.strongRecOn with
 | ind m ih =>
  have hi := fun m' (h : m' < m) => (ih m' h).1
  have hp := fun m' (h : m' < m) => (ih m' h).2
  have h1 := iPrefixA m (iAtomA m hi) hp
  exact ⟨iImplyA m (iOrA m (iAndA m h1)) hi, h1⟩
end Go.Proofs.YtkkcfifnkcnceaaGreat
namespace Go.Proofs.YtkkcfifnkcnceaaGreat
open Go.RowKit
set_option maxRecDepth 20000 in
set_option maxHeartbeats 8000000 in
theorem sPrefixA (m : Nat) (hm0 : ∀ m', m' < m → ReadA 204 m') (hi : ∀ m', m' < m → ReadA 230 m') : ReadA 230 m := by
 intro w r s i bad h hS hm
 have HI := hid hi; clear hi
 have HM := hid hm0; clear hm0
 have hr := h.lt
 go_enter Tryz.func230, Tryz.ntmps230
 go_wp2_with fail
 go_loopw [4] (fun q' wr => ∃ q : Nat, q ≤ 6 ∧ q' = .int .i64 q ∧ Keeps w wr) (fun q' _ => 6 - (intOf q').toNat)
 case atStart => exact ⟨0, by omega, rfl, Keeps.refl w⟩
 case round =>
  obtain ⟨q, hqv, rfl, kj⟩ := hrel
  have hq6 : q = 0 ∨ q = 1 ∨ q = 2 ∨ q = 3 ∨ q = 4 ∨ q = 5 ∨ q = 6 := by omega
  rcases hq6 with rfl | rfl | rfl | rfl | rfl | rfl | rfl
  ·have HM1 := hid (l02Take_any (k := 112) 112 (h.keeps kj) rfl)
   go_wp2_with fail
   refine HM1.out.mono ?_; rintro e w6 (⟨rfl, rfl, hib, h6, g6⟩ | ⟨rfl, h6, k6⟩)
   ·have gg := grown_pre0 kj g6
    go_wp2_with fail
    refine (l02Var_any 0 _).mono ?_; rintro e w7 ⟨v7, rfl, hv7, k7⟩
    go_wp2_with fail
    go_ret
    exact ⟨_, Fm.var 0, i + 1, false, rfl, (by simp [Fm.wf]), hv7.mono gg.size, h6.keeps k7, by omega, (by simp [Fm.enc]), grown_keeps gg k7⟩
   ·go_wp2_with fail
    go_roundw
    case rel => exact ⟨0 + 1, by omega, by first | rfl | go_num, kj.trans k6⟩
    case measure => simp [intOf]
  ·have HM1 := hid (l02Take_any (k := 113) 113 (h.keeps kj) rfl)
   go_wp2_with fail
   refine HM1.out.mono ?_; rintro e w6 (⟨rfl, rfl, hib, h6, g6⟩ | ⟨rfl, h6, k6⟩)
   ·have gg := grown_pre0 kj g6
    go_wp2_with fail
    refine (l02Var_any 1 _).mono ?_; rintro e w7 ⟨v7, rfl, hv7, k7⟩
    go_wp2_with fail
    go_ret
    exact ⟨_, Fm.var 1, i + 1, false, rfl, (by simp [Fm.wf]), hv7.mono gg.size, h6.keeps k7, by omega, (by simp [Fm.enc]), grown_keeps gg k7⟩
   ·go_wp2_with fail
    go_roundw
    case rel => exact ⟨1 + 1, by omega, by first | rfl | go_num, kj.trans k6⟩
    case measure => simp [intOf]
  ·have HM1 := hid (l02Take_any (k := 114) 114 (h.keeps kj) rfl)
   go_wp2_with fail
   refine HM1.out.mono ?_; rintro e w6 (⟨rfl, rfl, hib, h6, g6⟩ | ⟨rfl, h6, k6⟩)
   ·have gg := grown_pre0 kj g6
    go_wp2_with fail
    refine (l02Var_any 2 _).mono ?_; rintro e w7 ⟨v7, rfl, hv7, k7⟩
    go_wp2_with fail
    go_ret
    exact ⟨_, Fm.var 2, i + 1, false, rfl, (by simp [Fm.wf]), hv7.mono gg.size, h6.keeps k7, by omega, (by simp [Fm.enc]), grown_keeps gg k7⟩
   ·go_wp2_with fail
    go_roundw
    case rel => exact ⟨2 + 1, by omega, by first | rfl | go_num, kj.trans k6⟩
    case measure => simp [intOf]
  ·have HM1 := hid (l02Take_any (k := 115) 115 (h.keeps kj) rfl)
   go_wp2_with fail
   refine HM1.out.mono ?_; rintro e w6 (⟨rfl, rfl, hib, h6, g6⟩ | ⟨rfl, h6, k6⟩)
   ·have gg := grown_pre0 kj g6
    go_wp2_with fail
    refine (l02Var_any 3 _).mono ?_; rintro e w7 ⟨v7, rfl, hv7, k7⟩
    go_wp2_with fail
    go_ret
    exact ⟨_, Fm.var 3, i + 1, false, rfl, (by simp [Fm.wf]), hv7.mono gg.size, h6.keeps k7, by omega, (by simp [Fm.enc]), grown_keeps gg k7⟩
   ·go_wp2_with fail
    go_roundw
    case rel => exact ⟨3 + 1, by omega, by first | rfl | go_num, kj.trans k6⟩
    case measure => simp [intOf]
  ·have HM1 := hid (l02Take_any (k := 116) 116 (h.keeps kj) rfl)
   go_wp2_with fail
   refine HM1.out.mono ?_; rintro e w6 (⟨rfl, rfl, hib, h6, g6⟩ | ⟨rfl, h6, k6⟩)
   ·have gg := grown_pre0 kj g6
    go_wp2_with fail
    refine (l02Var_any 4 _).mono ?_; rintro e w7 ⟨v7, rfl, hv7, k7⟩
    go_wp2_with fail
    go_ret
    exact ⟨_, Fm.var 4, i + 1, false, rfl, (by simp [Fm.wf]), hv7.mono gg.size, h6.keeps k7, by omega, (by simp [Fm.enc]), grown_keeps gg k7⟩
   ·go_wp2_with fail
    go_roundw
    case rel => exact ⟨4 + 1, by omega, by first | rfl | go_num, kj.trans k6⟩
    case measure => simp [intOf]
  ·have HM1 := hid (l02Take_any (k := 117) 117 (h.keeps kj) rfl)
   go_wp2_with fail
   refine HM1.out.mono ?_; rintro e w6 (⟨rfl, rfl, hib, h6, g6⟩ | ⟨rfl, h6, k6⟩)
   ·have gg := grown_pre0 kj g6
    go_wp2_with fail
    refine (l02Var_any 5 _).mono ?_; rintro e w7 ⟨v7, rfl, hv7, k7⟩
    go_wp2_with fail
    go_ret
    exact ⟨_, Fm.var 5, i + 1, false, rfl, (by simp [Fm.wf]), hv7.mono gg.size, h6.keeps k7, by omega, (by simp [Fm.enc]), grown_keeps gg k7⟩
   ·go_wp2_with fail
    go_roundw
    case rel => exact ⟨5 + 1, by omega, by first | rfl | go_num, kj.trans k6⟩
    case measure => simp [intOf]
  ·have hj0 := h.keeps kj
   have HT70 := hid (l02Take_any (k := 70) 70 hj0 rfl)
   go_wp2_with fail
   refine HT70.out.mono ?_; rintro e wa (⟨rfl, rfl, hib, ha, ga⟩ | ⟨rfl, hq70, kq70⟩)
   ·have g0 := grown_pre0 kj ga
    go_wp2_with fail
    refine (l02False_any _).mono ?_; rintro e wb ⟨vb, rfl, hvb, kb⟩
    go_wp2_with fail
    go_ret
    exact ⟨_, Fm.fls, i + 1, false, rfl, (by simp [Fm.wf]), hvb.mono g0.size, ha.keeps kb, by omega, (by simp [Fm.enc]; try omega), grown_keeps g0 kb⟩
   ·skip
    have HT84 := hid (l02Take_any (k := 84) 84 hq70 rfl)
    go_wp2_with fail
    refine HT84.out.mono ?_; rintro e wa (⟨rfl, rfl, hib, ha, ga⟩ | ⟨rfl, hq84, kq84⟩)
    ·have g0 := grown_pre0 (kj.trans kq70) ga
     go_wp2_with fail
     refine (l02True_any _).mono ?_; rintro e wb ⟨vb, rfl, hvb, kb⟩
     go_wp2_with fail
     go_ret
     exact ⟨_, Fm.imp .fls .fls, i + 1, false, rfl, (by simp [Fm.wf]), hvb.mono g0.size, ha.keeps kb, by omega, (by simp [Fm.enc]; try omega), grown_keeps g0 kb⟩
    ·skip
     have HT126 := hid (l02Take_any (k := 126) 126 hq84 rfl)
     go_wp2_with fail
     refine HT126.out.mono ?_; rintro e wa (⟨rfl, rfl, hib, ha, ga⟩ | ⟨rfl, hq126, kq126⟩)
     ·have g0 := grown_pre0 ((kj.trans kq70).trans kq84) ga
      have HY := hid (HI.out (s.size - (i + 1)) (by omega) wa r s (i + 1) false ha hS (Nat.le_refl _))
      go_wp2_with fail
      refine HY.out.mono ?_; rintro e wb ⟨vb, tb, jb, bb, rfl, hwb, hvb, hb, hjb, hlb, gb⟩
      have gg := grown_trans g0 gb
      have hle := hb.le
      go_wp2_with fail
      refine (l02Not_any tb _ _ (hvb.nds (by omega)) (by omega)).mono ?_; rintro e wc ⟨vc, rfl, hvc, kc⟩
      go_wp2_with fail
      go_ret
      exact ⟨_, Fm.imp tb .fls, jb, bb, rfl, ⟨hwb, trivial⟩, hvc.mono gg.size, hb.keeps kc, by omega, (by simp only [Fm.enc, List.length_cons, List.length_append, List.length_nil]; omega), grown_keeps gg kc⟩
     ·skip
      have HT91 := hid (l02Take_any (k := 91) 91 hq126 rfl)
      go_wp2_with fail
      refine HT91.out.mono ?_; rintro e wa (⟨rfl, rfl, hib, ha, ga⟩ | ⟨rfl, hq91, kq91⟩)
      ·have g0 := grown_pre0 (((kj.trans kq70).trans kq84).trans kq126) ga
       have HN := hid (sNeedA (k := 93) 93 ha rfl)
       go_wp2_with fail
       refine HN.out.mono ?_; rintro e wn ⟨jn, bn, rfl, hjn, hn, gn⟩
       have hlen := hn.le
       have HY := hid (HI.out (s.size - jn) (by omega) wn r s jn bn hn hS (Nat.le_refl _))
       go_wp2_with fail
       refine HY.out.mono ?_; rintro e wb ⟨vb, tb, jb, bb, rfl, hwb, hvb, hb, hjb, hlb, gb⟩
       have gg := grown_trans g0 (grown_trans gn gb)
       have hle := hb.le
       go_wp2_with fail
       refine (l02Pre_any 5 _ _ _ (hvb.nds (by omega)) (by omega)).mono ?_; rintro e wc ⟨vc, rfl, hvc, kc⟩
       go_wp2_with fail
       go_ret
       exact ⟨_, Fm.box tb, jb, bb, rfl, hwb, hvc.mono gg.size, hb.keeps kc, by omega, (by simp only [Fm.enc, List.length_cons]; omega), grown_keeps gg kc⟩
      ·skip
       have HT60 := hid (l02Take_any (k := 60) 60 hq91 rfl)
       go_wp2_with fail
       refine HT60.out.mono ?_; rintro e wa (⟨rfl, rfl, hib, ha, ga⟩ | ⟨rfl, hq60, kq60⟩)
       ·have g0 := grown_pre0 ((((kj.trans kq70).trans kq84).trans kq126).trans kq91) ga
        have HN := hid (sNeedA (k := 62) 62 ha rfl)
        go_wp2_with fail
        refine HN.out.mono ?_; rintro e wn ⟨jn, bn, rfl, hjn, hn, gn⟩
        have hlen := hn.le
        have HY := hid (HI.out (s.size - jn) (by omega) wn r s jn bn hn hS (Nat.le_refl _))
        go_wp2_with fail
        refine HY.out.mono ?_; rintro e wb ⟨vb, tb, jb, bb, rfl, hwb, hvb, hb, hjb, hlb, gb⟩
        have gg := grown_trans g0 (grown_trans gn gb)
        have hle := hb.le
        go_wp2_with fail
        refine (l02Pre_any 6 _ _ _ (hvb.nds (by omega)) (by omega)).mono ?_; rintro e wc ⟨vc, rfl, hvc, kc⟩
        go_wp2_with fail
        go_ret
        exact ⟨_, Fm.dia tb, jb, bb, rfl, hwb, hvc.mono gg.size, hb.keeps kc, by omega, (by simp only [Fm.enc, List.length_cons]; omega), grown_keeps gg kc⟩
       ·skip
        have HT40 := hid (l02Take_any (k := 40) 40 hq60 rfl)
        go_wp2_with fail
        refine HT40.out.mono ?_; rintro e wa (⟨rfl, rfl, hib, ha, ga⟩ | ⟨rfl, hq40, kq40⟩)
        ·have g0 := grown_pre0 (((((kj.trans kq70).trans kq84).trans kq126).trans kq91).trans kq60) ga
         have HY := hid (HM.out (s.size - (i + 1)) (by omega) wa r s (i + 1) false ha hS (Nat.le_refl _))
         have hra := ha.lt
         go_wp2_with fail
         refine HY.out.mono ?_; rintro e wb ⟨vb, tb, jb, bb, rfl, hwb, hvb, hb, hjb, hlb, gb⟩
         have HN := hid (sNeedA (k := 41) 41 hb rfl)
         go_wp2_with fail
         refine HN.out.mono ?_; rintro e wn ⟨jn, bn, rfl, hjn, hn, gn⟩
         go_wp2_with fail
         go_ret
         exact ⟨_, tb, jn, bn, rfl, hwb, (hvb.grown gn hra).mono g0.size, hn, by omega, by omega, grown_trans g0 (grown_trans gb gn)⟩
        ·skip
         have hs := hq40.spoiled
         have kz := ((((((kj.trans kq70).trans kq84).trans kq126).trans kq91).trans kq60).trans kq40)
         have gg := grown_pre0 kz (grown_set r 2 (.bool true))
         obtain ⟨c0, c1, c2, f1, f2, le, sz⟩ := hq40
         go_wp2_with fail
         refine (l02False_any _).mono ?_; rintro e w7 ⟨v7, rfl, hv7, k7⟩
         go_wp2_with fail
         go_ret
         exact ⟨_, Fm.fls, i, true, rfl, trivial, hv7.mono gg.size, hs.keeps k7, Nat.le_refl _, (by simp [Fm.enc]), grown_keeps gg k7⟩
set_option maxRecDepth 20000 in
set_option maxHeartbeats 2000000 in
theorem sAndA (m : Nat) (hp : ReadA 230 m) : ReadA 224 m := by
 intro w r s i bad h hS hm
 have HP := hid hp; clear hp
 have hr := h.lt
 have H0 := hid (HP.out w r s i bad h hS hm)
 clear h
 go_enter Tryz.func224, Tryz.ntmps224
 go_wp2_with fail
 refine H0.out.mono ?_; rintro e w1 ⟨v1, t1, j1, b1, rfl, hw1, hv1, h1, hj1, hl1, g1⟩
 clear H0
 go_wp2_with fail
 go_loopw [3] (fun a' wr => LoopA w r s i a' wr) (fun _ wr => match wr.cell? ⟨r, 1, none⟩ with | some (.int _ n) => s.size - n.toNat | _ => 0)
 case atStart => exact ⟨t1, j1, b1, hw1, hv1, h1, hj1, hl1, g1⟩
 case round =>
  obtain ⟨t, j, b, hw, hacc, hj, hij, hl, gj⟩ := hrel
  clear hw1 hv1 h1 hj1 hl1 g1
  have HT := hid (l02Take_any (k := 38) 38 hj rfl)
  have hle := hj.le
  go_wp2_with fail
  refine HT.out.mono ?_; rintro e w2 (⟨rfl, rfl, hi2, h2, g2⟩ | ⟨rfl, h2, k2⟩)
  ·have hacc2 := hacc.grown g2 hr
   have HY := hid (HP.out w2 r s (j + 1) false h2 hS (by omega))
   clear hacc
   go_wp2_with fail
   refine HY.out.mono ?_; rintro e w3 ⟨v3, t3, j3, b3, rfl, hw3, hv3, h3, hj3, hl3, g3⟩
   have hacc3 := hacc2.grown g3 hr
   have hs2 := gj.size
   have hs3 := g2.size
   have hs4 := g3.size
   have gw3 := grown_trans gj (grown_trans g2 g3)
   have hle3 := h3.le
   go_wp2_with fail
   refine (l02Pair_any _ _ _ _ _ _ (hacc3.nds (by omega)) (hv3.nds (by omega)) (by omega)).mono ?_; rintro e w4 ⟨v4, rfl, hv4, k4⟩
   have h4 := h3.keeps k4
   go_wp2_with fail
   go_roundw
   case rel => exact ⟨Fm.and t t3, j3, b3, ⟨hw, hw3⟩, hv4.mono (by omega), h4, by omega, (by simp only [Fm.enc, List.length_cons, List.length_append]; omega), grown_keeps gw3 k4⟩
   case measure =>
    have e1 := hj.c1
    have e2 := h4.c1
    simp [e1, e2]
    omega
  ·go_wp2_with fail
   go_ret
   exact ⟨_, t, j, b, rfl, hw, hacc.keeps k2, h2, hij, hl, grown_keeps gj k2⟩
set_option maxRecDepth 20000 in
set_option maxHeartbeats 2000000 in
theorem sOrA (m : Nat) (hp : ReadA 224 m) : ReadA 216 m := by
 intro w r s i bad h hS hm
 have HP := hid hp; clear hp
 have hr := h.lt
 have H0 := hid (HP.out w r s i bad h hS hm)
 clear h
 go_enter Tryz.func216, Tryz.ntmps216
 go_wp2_with fail
 refine H0.out.mono ?_; rintro e w1 ⟨v1, t1, j1, b1, rfl, hw1, hv1, h1, hj1, hl1, g1⟩
 clear H0
 go_wp2_with fail
 go_loopw [3] (fun a' wr => LoopA w r s i a' wr) (fun _ wr => match wr.cell? ⟨r, 1, none⟩ with | some (.int _ n) => s.size - n.toNat | _ => 0)
 case atStart => exact ⟨t1, j1, b1, hw1, hv1, h1, hj1, hl1, g1⟩
 case round =>
  obtain ⟨t, j, b, hw, hacc, hj, hij, hl, gj⟩ := hrel
  clear hw1 hv1 h1 hj1 hl1 g1
  have HT := hid (l02Take_any (k := 124) 124 hj rfl)
  have hle := hj.le
  go_wp2_with fail
  refine HT.out.mono ?_; rintro e w2 (⟨rfl, rfl, hi2, h2, g2⟩ | ⟨rfl, h2, k2⟩)
  ·have hacc2 := hacc.grown g2 hr
   have HY := hid (HP.out w2 r s (j + 1) false h2 hS (by omega))
   clear hacc
   go_wp2_with fail
   refine HY.out.mono ?_; rintro e w3 ⟨v3, t3, j3, b3, rfl, hw3, hv3, h3, hj3, hl3, g3⟩
   have hacc3 := hacc2.grown g3 hr
   have hs2 := gj.size
   have hs3 := g2.size
   have hs4 := g3.size
   have gw3 := grown_trans gj (grown_trans g2 g3)
   have hle3 := h3.le
   go_wp2_with fail
   refine (l02Pair_any _ _ _ _ _ _ (hacc3.nds (by omega)) (hv3.nds (by omega)) (by omega)).mono ?_; rintro e w4 ⟨v4, rfl, hv4, k4⟩
   have h4 := h3.keeps k4
   go_wp2_with fail
   go_roundw
   case rel => exact ⟨Fm.or t t3, j3, b3, ⟨hw, hw3⟩, hv4.mono (by omega), h4, by omega, (by simp only [Fm.enc, List.length_cons, List.length_append]; omega), grown_keeps gw3 k4⟩
   case measure =>
    have e1 := hj.c1
    have e2 := h4.c1
    simp [e1, e2]
    omega
  ·go_wp2_with fail
   go_ret
   exact ⟨_, t, j, b, rfl, hw, hacc.keeps k2, h2, hij, hl, grown_keeps gj k2⟩
set_option maxRecDepth 20000 in
set_option maxHeartbeats 2000000 in
theorem sImplyA (m : Nat) (hp : ReadA 216 m) (hi : ∀ m', m' < m → ReadA 204 m') : ReadA 204 m := by
 intro w r s i bad h hS hm
 have HI := hid hi; clear hi
 have hr := h.lt
 have H0 := hid (hp w r s i bad h hS hm)
 clear h hp
 go_enter Tryz.func204, Tryz.ntmps204
 go_wp2_with fail
 refine H0.out.mono ?_; rintro e w1 ⟨v1, t1, j1, b1, rfl, hw1, hv1, h1, hj1, hl1, g1⟩
 clear H0
 have HT := hid (l02Take_any (k := 62) 62 h1 rfl)
 go_wp2_with fail
 refine HT.out.mono ?_; rintro e w2 (⟨rfl, rfl, hi2, h2, g2⟩ | ⟨rfl, h2, k2⟩)
 ·have HY := hid (HI.out (s.size - (j1 + 1)) (by omega) w2 r s (j1 + 1) false h2 hS (Nat.le_refl _))
  go_wp2_with fail
  refine HY.out.mono ?_; rintro e w3 ⟨v3, t3, j3, b3, rfl, hw3, hv3, h3, hj3, hl3, g3⟩
  have hv13 := (hv1.grown g2 hr).grown g3 hr
  have gw3 := grown_trans g1 (grown_trans g2 g3)
  have hle3 := h3.le
  go_wp2_with fail
  refine (l02Pair_any _ _ _ _ _ _ (hv13.nds (by omega)) (hv3.nds (by omega)) (by omega)).mono ?_; rintro e w4 ⟨v4, rfl, hv4, k4⟩
  go_wp2_with fail
  go_ret
  exact ⟨_, Fm.imp t1 t3, j3, b3, rfl, ⟨hw1, hw3⟩, hv4.mono gw3.size, h3.keeps k4, by omega, (by simp only [Fm.enc, List.length_cons, List.length_append]; omega), grown_keeps gw3 k4⟩
 ·go_wp2_with fail
  go_ret
  exact ⟨_, t1, j1, b1, rfl, hw1, hv1.keeps k2, h2, hj1, hl1, grown_keeps g1 k2⟩
theorem specReadA (m : Nat) : ReadA 204 m ∧ ReadA 230 m := by
 induction m using Nat.strongRecOn with
 | ind m ih =>
  have hi := fun m' (h : m' < m) => (ih m' h).1
  have hp := fun m' (h : m' < m) => (ih m' h).2
  have h1 := sPrefixA m hi hp
  exact ⟨sImplyA m (sOrA m (sAndA m h1)) hi, h1⟩
end Go.Proofs.YtkkcfifnkcnceaaGreat
namespace Go.Proofs.YtkkcfifnkcnceaaGreat
open Go.RowKit
set_option maxHeartbeats 400000 in
theorem indexFuncS (pr : ByteArray → Bool) (f : FuncId) (cp : Array Value) (a : List ByteArray) (v : Value) (w : World) (hv : Strs w v a) (hcf : Enters f)
  (hf : ∀ x w1, x ∈ a → Keeps w w1 → Calls Tryz.prog f (#[.string x] ++ cp) w1 fun e w2 => e = .returned (.bool (pr x)) ∧ Keeps w1 w2) :
  Calls Tryz.prog 142 #[v, .func (.func f) #[] cp] w fun e w' => e = .returned (.int .i64 (idxOf pr a 0)) ∧ Keeps w w' := by
 have hv0 := hv
 obtain ⟨p, cap, rfl, hle, hmx, _, hlen⟩ := hv.at
 unfold maxLen at hmx
 have HF := hid hf; clear hf
 have hcf' : ∀ args w, (callFunc f args).run Tryz.prog w = .ok (.enter f args) w := hcf
 clear hcf
 go_enter Tryz.func142, Tryz.ntmps142
 go_wp2
 go_loopw [4, 8] (fun r i' wr => ∃ k : Nat, k ≤ a.length ∧ idxOf pr a 0 = idxOf pr (a.drop k) k ∧ Keeps w wr ∧ i' = .int .i64 k ∧ r = .int .i64 0) (fun _ i _ => a.length - (intOf i).toNat)
 case atStart => exact ⟨0, by omega, by simp, Keeps.refl w, rfl, rfl⟩
 case round =>
  obtain ⟨k, hk, hs, kw, rfl, rfl⟩ := hrel
  have Hs := hid hs; clear hs
  by_cases hlt : k < a.length
  ·obtain ⟨b, off, rfl, h1⟩ := (hv0.keeps kw).get k hlt
   have hd := hid (idxOf_drop pr a k hlt)
   clear hv0
   cases hp : pr a[k]
   all_goals
    have Hp := hid hp; clear hp
    go_wp2_with ((with_reducible refine (HF.out a[k] wr (List.getElem_mem hlt) kw).mono ?_); rintro e w2 ⟨rfl, k2⟩; rw [Hp.out])
   ·go_roundw
    case rel => exact ⟨k + 1, by omega, by rw [Hs.out, hd.out, Hp.out]; rfl, kw.trans k2, by go_num, rfl⟩
    case measure => simp [intOf]; omega
   ·go_ret
    exact ⟨ret_int (by rw [Hs.out, hd.out, Hp.out]; rfl), kw.trans k2⟩
  ·go_wp2
   go_ret
   exact ⟨ret_int (by rw [Hs.out, idxOf_end _ _ _ (by omega)]), kw⟩
theorem containsFuncS (pr : ByteArray → Bool) (f : FuncId) (cp : Array Value) (a : List ByteArray) (v : Value) (w : World) (hv : Strs w v a) (hcf : Enters f)
  (hf : ∀ x w1, x ∈ a → Keeps w w1 → Calls Tryz.prog f (#[.string x] ++ cp) w1 fun e w2 => e = .returned (.bool (pr x)) ∧ Keeps w1 w2) :
  Calls Tryz.prog 98 #[v, .func (.func f) #[] cp] w fun e w' => e = .returned (.bool (a.any pr)) ∧ Keeps w w' := by
 have H := hid (indexFuncS pr f cp a v w hv hcf hf)
 clear hv hf hcf
 have he := hid (idxOf_any pr a 0)
 go_enter Tryz.func98, Tryz.ntmps98
 go_wp2_with (go_at_call 142; refine H.out.mono ?_; rintro e w2 ⟨rfl, k2⟩)
 go_ret
 exact ⟨ret_bool he.out, k2⟩
end Go.Proofs.YtkkcfifnkcnceaaGreat
