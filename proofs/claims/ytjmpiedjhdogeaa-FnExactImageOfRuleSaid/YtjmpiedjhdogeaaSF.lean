/- ImageOfRule in the reference. -/
import Derived.Test.YtjmpiedjhdogeaaSE
import Derived.Test.YtjmpiedjhdogeaaSH
namespace Go.Proofs.Ytjmpiedjhdogeaa
open Go.RowKit
theorem most_big {l : List (List Nd)} : bigL l = decide (40 < mostL l) := by
  have h := mostL_le l 40
  by_cases hb : 40 < mostL l
  · rw [decide_eq_true hb]
    have h2 : ¬ ∀ x ∈ l, x.length ≤ 40 := fun hh => by have := h.2 hh; omega
    simp only [Classical.not_forall] at h2
    obtain ⟨x, hx, hl⟩ := h2
    exact List.any_eq_true.2 ⟨x, hx, by simpa using (by omega : 40 < x.length)⟩
  · rw [decide_eq_false hb]
    unfold bigL
    rw [List.any_eq_false]
    intro x hx
    have := h.1 (by omega) x hx
    simp; omega
--
theorem rule_back {w W : World} {B b o q : Nat} {vs : List Value} {xs : List (List Nd)} {c : List Nd} (ho : w.ownsRow B 25 1 (.slice (some ⟨b, o, none⟩) (xs.length + 1) q) (xs.length + 1) vs) (hr : RowsN w B vs (xs ++ [c])) (t : Touch w W (fun i => i < B)) (hlen : xs.length + 1 ≤ 2147483648) (htot : tot (xs ++ [c]) ≤ 2147483648) :
    NdsL W (.slice (some ⟨b, o, none⟩) xs.length q) xs ∧ ∀ h : xs.length < vs.length, Nds W vs[xs.length] c := by
  have ho' := own_touch ho t (fun i e hs => by have := (World.ownsRow.lt ho i e).1; omega)
  have hr' := hr.touch t (fun i e hs => by have := (hr.lt e).1; omega)
  obtain ⟨p, cap, e, h1, h2, hat⟩ := At.of_own ho'
  cases e
  have hvl : vs.length = xs.length + 1 := by have := hr.1; simpa using this
  have htm := fun i (hi : i < (xs ++ [c]).length) => tot_mem (xs ++ [c]) i hi
  constructor
  · refine ⟨some ⟨b, o, none⟩, q, rfl, by omega, h2, by omega, fun i hi => ?_⟩
    obtain ⟨b', o', hp, hc⟩ := hat i (by omega)
    refine ⟨b', o', fun _ => vs[i], hp, fun c' hc' => ?_, ?_⟩
    · obtain rfl : c' = 0 := by omega
      simpa using hc
    · have h3 := hr'.2 i (by omega) (by simp; omega)
      have h4 := htm i (by simp; omega)
      simp only [List.getElem_append_left hi] at h3 h4
      exact h3.nds (by omega)
  · intro h
    have h3 := hr'.2 xs.length h (by simp)
    have h4 := htm xs.length (by simp)
    simp at h3 h4
    exact h3.nds (by omega)
--
set_option maxRecDepth 20000 in
set_option maxHeartbeats 4000000 in
theorem specImageOfRule_any (xs : List (List Nd)) (c : List Nd) (ims : List (List Nd)) (v u vi : Value) (w : World) (hv : NdsL w v xs) (hu : Nds w u c) (hvi : NdsL w vi ims) :
    Calls Try.prog 18 #[.agg #[v, u], vi] w fun e w' => ∃ x y, e = .returned (.tuple #[.agg #[x, y], .int .i64 (irE xs c ims)]) ∧ NdsL w' x (irP xs c ims) ∧ Nds w' y (irC xs c ims) ∧ Keeps w w' := by
  obtain ⟨p1, n1, q1, rfl⟩ := agg_shape hv
  obtain ⟨p2, n2, q2, rfl⟩ := hu.shape
  obtain ⟨p3, n3, q3, rfl⟩ := agg_shape hvi
  have kA := ((Keeps.refl w).alloc (.cells #[.slice p1 n1 q1, .slice p2 n2 q2] 27)).alloc (.cells #[.slice none 0 0, .slice none 0 0] 27)
  have pa : ((w.alloc (.cells #[.slice p1 n1 q1, .slice p2 n2 q2] 27)).alloc (.cells #[.slice none 0 0, .slice none 0 0] 27)).cell? ⟨w.heap.size, 0, none⟩ = some (.slice p1 n1 q1) := by rw [World.cell?_alloc_lt (h := by simp)]; simp
  have pb : ((w.alloc (.cells #[.slice p1 n1 q1, .slice p2 n2 q2] 27)).alloc (.cells #[.slice none 0 0, .slice none 0 0] 27)).cell? ⟨w.heap.size, 1, none⟩ = some (.slice p2 n2 q2) := by rw [World.cell?_alloc_lt (h := by simp)]; simp
  have hb1 : w.heap.size + 1 < ((w.alloc (.cells #[.slice p1 n1 q1, .slice p2 n2 q2] 27)).alloc (.cells #[.slice none 0 0, .slice none 0 0] 27)).heap.size := by simp
  have HR := hid (l31Code_any xs c _ _ _ (hv.keeps kA) (hu.keeps kA))
  have HM := hid (fun w2 (k : Keeps w w2) => l31Images_any ims _ w2 (hvi.keeps k))
  have HB2 := hid (fun w2 => l31Both_any (ruleErr xs c) ims w2 (ruleErr_range xs c))
  by_cases h : imgErr (ruleErr xs c) ims = 0
  · obtain ⟨hr0, hs0, _⟩ := imgErr_zero h
    obtain ⟨hx6, hall⟩ := ruleErr_zero hr0
    obtain ⟨h6, hi40⟩ := isSub_facts hs0
    have hl : ∀ a ∈ xs ++ [c], (sub ims a).length ≤ 1600 := fun a ha => by
      have h1 := sub_len hi40 (by omega) a
      have h2 := (hall a ha).2
      have h3 : 40 * a.length ≤ 40 * 40 := Nat.mul_le_mul_left _ h2
      omega
    have HO := hid (fun w2 (k : Keeps w w2) => l31Of_any xs c _ _ w2 (hv.keeps k) (hu.keeps k) (by omega))
    have HI := hid (fun w2 (k : Keeps w w2) vl (hvl : NdsL w2 vl (xs ++ [c])) => l31Image_any ims (xs ++ [c]) vl _ w2 hvl (hvi.keeps k) (fun a ha => (hall a ha).1) h6 (fun a ha => by have := hl a ha; omega) (by simp; omega))
    have HL := hid hl; clear hl
    have hmost := most_big (l := (xs ++ [c]).map (sub ims))
    have hml : mostL ((xs ++ [c]).map (sub ims)) ≤ 1600 := (mostL_le _ _).2 (fun y hy => by obtain ⟨a, ha, rfl⟩ := List.mem_map.1 hy; exact HL.out a ha)
    rw [h] at HB2
    rw [hr0] at HR HB2
    have H0 := hid h; clear h
    clear hv hu hvi hall hi40 hr0 hs0 h6
    generalize hM : mostL ((xs ++ [c]).map (sub ims)) = M at *
    generalize hE : imsErr ims = E at *
    clear hM hE
    cases hb : bigL ((xs ++ [c]).map (sub ims))
    · obtain ⟨e1, e2, e3⟩ := irE_ok H0.out hb
      rw [e1, e2, e3]
      clear e1 e2 e3
      have hd : decide ((M : Int) > 40) = false := by rw [hb] at hmost; simp at hmost ⊢; omega
      have HMO := hid hmost; clear hmost hb
      go_enter Try.func18, Try.ntmps18
      go_wp2_with fail
      refine HR.out.mono ?_; rintro e w2 ⟨rfl, k2⟩
      go_wp2_with fail
      refine (HM.out w2 (kA.trans k2)).mono ?_; rintro e w' ⟨rfl, rfl⟩
      go_wp2_with fail
      refine (HB2.out w2).mono ?_; rintro e w' ⟨rfl, rfl⟩
      have qa := k2.cell pa
      have qb := k2.cell pb
      go_wp2_with fail
      refine (HO.out w2 (kA.trans k2)).mono ?_; rintro e w3 ⟨v3, rfl, hv3, k3⟩
      have hn3 := hv3.ndsL k3 (by simp; omega)
      obtain ⟨p4, n4, q4, rfl⟩ := agg_shape hn3
      go_wp2_with fail
      refine (HI.out w3 ((kA.trans k2).trans k3) _ hn3).mono ?_; rintro e w4 ⟨v4, rfl, hv4, k4⟩
      have ht4 : tot (xs.map (sub ims) ++ [sub ims c]) ≤ 2147483648 := by
        have := tot_bound (xs.map (sub ims) ++ [sub ims c]) 1600 (fun y hy => by
          rcases List.mem_append.1 hy with hy | hy
          · obtain ⟨a, ha, rfl⟩ := List.mem_map.1 hy; exact HL.out a (List.mem_append.2 (.inl ha))
          · obtain rfl : y = sub ims c := by simpa using hy
            exact HL.out c (by simp))
        simp only [List.length_append, List.length_map, List.length_cons, List.length_nil] at this
        omega
      obtain ⟨vs, ho, hr, _, _⟩ := hv4
      rw [List.map_append, List.map_cons, List.map_nil] at ho hr
      have hvl : vs.length = xs.length + 1 := by have := hr.1; simpa using this
      obtain ⟨p5, q5, e5, hle5, hmx5, hat5⟩ := At.of_own ho
      simp only [List.length_append, List.length_map, List.length_cons, List.length_nil, Nat.zero_add] at e5 hle5 ho
      obtain ⟨b5, o5, hp5, hcl⟩ := hat5 xs.length (by omega)
      subst e5
      subst hp5
      have hbk := fun (W : World) (t : Touch w4 W (fun i => i < w3.heap.size)) => rule_back (xs := xs.map (sub ims)) (c := sub ims c) (by simpa using ho) hr t (by simp; omega) ht4
      have hul := (hbk w4 (Touch.refl _ _)).2 (by simp; omega)
      have hxe : vs[(xs.map (sub ims)).length]'(by simp; omega) = vs[xs.length]'(by omega) := by simp
      rw [hxe] at hul
      simp only [List.length_map] at hbk
      generalize hx : vs[xs.length]'(by omega) = x5 at *
      obtain ⟨p6, n6, q6, rfl⟩ := hul.shape
      have HX := hid (show ∀ h : xs.length < vs.length, vs[xs.length] = _ from fun _ => hx); clear hx hxe hul hat5 hr ho
      have HBK := hid hbk; clear hbk hn3 hv3
      have HT4 := hid ht4; clear ht4
      have HVL := hid hvl; clear hvl
      have k04 := (k2.trans k3).trans k4
      obtain ⟨hc4, hf4⟩ := k04.both
      have hrc0 : w4.cell? ⟨w.heap.size + 1, 0, none⟩ = some (.slice none 0 0) := by rw [hc4 _ _ hb1]; simp
      have hrc1 : w4.cell? ⟨w.heap.size + 1, 1, none⟩ = some (.slice none 0 0) := by rw [hc4 _ _ hb1]; simp
      have hrf0 : w4.frozen? ⟨w.heap.size + 1, 0, none⟩ = false := by rw [hf4 _ _ hb1]; simp
      have hrf1 : w4.frozen? ⟨w.heap.size + 1, 1, none⟩ = false := by rw [hf4 _ _ hb1]; simp
      have hlow : w.heap.size + 1 < w3.heap.size := by have := (k2.trans k3).size; simp at this; omega
      clear hc4 hf4
      unfold maxLen at hmx5
      go_wp2_with fail
      go_region
      have tt : Touch w4 (((w4.setCell ⟨w.heap.size + 1, 0, none⟩ (.slice (some ⟨b5, o5, none⟩) xs.length q5)).setCell ⟨w.heap.size + 1, 1, none⟩ (.slice p6 n6 q6)).drew) (fun i => i < w3.heap.size) :=
        (((Touch.grown (grown_set _ _ _)).trans (Touch.grown (grown_set _ _ _))).mono (fun i hi => by cases hi; exact hlow)).trans (Touch.of_keeps ((Keeps.refl _).drew) _)
      have hfin := HBK.out _ tt
      go_wp2
      refine bodyPost_ret (v := .tuple #[.agg #[.slice (some ⟨b5, o5, none⟩) xs.length q5, .slice p6 n6 q6], .int .i64 0]) (by simp [results, Try.results18, go_sem, hrc0, hrc1]) rfl ?_
      refine ⟨_, _, rfl, hfin.1, ?_, (((kA.trans k04).setCell (by simp) _).setCell (by simp) _).drew⟩
      have h2 := hfin.2 (by have := HVL.out; omega)
      rw [HX.out (by have := HVL.out; omega)] at h2
      exact h2
    · obtain ⟨e1, e2, e3⟩ := irE_big H0.out hb
      rw [e1, e2, e3]
      clear e1 e2 e3
      have hd : decide ((M : Int) > 40) = true := by rw [hb] at hmost; simp at hmost ⊢; omega
      have HMO := hid hmost; clear hmost hb
      go_enter Try.func18, Try.ntmps18
      go_wp2_with fail
      refine HR.out.mono ?_; rintro e w2 ⟨rfl, k2⟩
      go_wp2_with fail
      refine (HM.out w2 (kA.trans k2)).mono ?_; rintro e w' ⟨rfl, rfl⟩
      go_wp2_with fail
      refine (HB2.out w2).mono ?_; rintro e w' ⟨rfl, rfl⟩
      have qa := k2.cell pa
      have qb := k2.cell pb
      go_wp2_with fail
      refine (HO.out w2 (kA.trans k2)).mono ?_; rintro e w3 ⟨v3, rfl, hv3, k3⟩
      have hn3 := hv3.ndsL k3 (by simp; omega)
      obtain ⟨p4, n4, q4, rfl⟩ := agg_shape hn3
      go_wp2_with fail
      refine (HI.out w3 ((kA.trans k2).trans k3) _ hn3).mono ?_; rintro e w4 ⟨v4, rfl, hv4, k4⟩
      have k04 := (k2.trans k3).trans k4
      obtain ⟨hc4, hf4⟩ := k04.both
      obtain ⟨p5, q5, rfl, _, _⟩ := hv4.lenv
      clear hv4 hn3 hv3
      go_wp2_with fail
      refine bodyPost_ret (v := .tuple #[.agg #[.slice none 0 0, .slice none 0 0], .int .i64 3]) (by simp [results, Try.results18, go_sem, hc4]) rfl ?_
      exact ⟨_, _, rfl, ndsL_nil _, (OwnN.nil _ 0).nds (by simp), ((kA.trans k04).setCell (by simp) _).setCell (by simp) _⟩
  · obtain ⟨e1, e2, e3⟩ := irE_err h
    rw [e1, e2, e3]
    clear e1 e2 e3
    have hne : (imgErr (ruleErr xs c) ims != 0) = true := by simp [h]
    generalize imgErr (ruleErr xs c) ims = E at *
    generalize ruleErr xs c = R at *
    generalize imsErr ims = J at *
    have H := hid h; clear h
    clear hv hu hvi
    go_enter Try.func18, Try.ntmps18
    go_wp2_with fail
    refine HR.out.mono ?_; rintro e w2 ⟨rfl, k2⟩
    go_wp2_with fail
    refine (HM.out w2 (kA.trans k2)).mono ?_; rintro e w' ⟨rfl, rfl⟩
    go_wp2_with fail
    refine (HB2.out w2).mono ?_; rintro e w' ⟨rfl, rfl⟩
    obtain ⟨hc2, hf2⟩ := k2.both
    go_wp2_with fail
    refine bodyPost_ret (v := .tuple #[.agg #[.slice none 0 0, .slice none 0 0], .int .i64 E]) (by simp [results, Try.results18, go_sem, hc2]) rfl ?_
    exact ⟨_, _, rfl, ndsL_nil _, (OwnN.nil _ 0).nds (by simp), ((kA.trans k2).setCell (by simp) _).setCell (by simp) _⟩
end Go.Proofs.Ytjmpiedjhdogeaa
