/- Images of rules on both sides. -/
import Derived.Test.YtjmpiedjhdogeaaSD
import Derived.Test.YtjmpiedjhdogeaaM5
import Derived.Test.YtjmpiedjhdogeaaV1
import Derived.Test.YtjmpiedjhdogeaaL6
namespace Go.Proofs.Ytjmpiedjhdogeaa
open Go.RowKit
theorem allFm_all {l : List (List Nd)} (h : allFm l = true) : ∀ x ∈ l, isFm x = true := by
  intro x hx
  simp only [allFm, Bool.not_eq_true', List.any_eq_false] at h
  simpa using h x hx
theorem isFm_ok {x : List Nd} (h : isFm x = true) : x.all okNd = true ∧ x.length ≤ 40 := by
  simp only [isFm, isTree, Bool.and_eq_true, decide_eq_true_eq] at h
  exact ⟨h.2.1, h.1⟩
theorem imgErr_zero {one : Int} {ims : List (List Nd)} (h : imgErr one ims = 0) : one = 0 ∧ isSub ims = true ∧ allPlainL ims = false := by
  unfold imgErr at h
  split at h
  · omega
  · rename_i h1
    split at h
    · omega
    · rename_i h2
      refine ⟨by omega, ?_, ?_⟩
      · cases hs : isSub ims with
        | false => exact absurd (.inr hs) h1
        | true => rfl
      · cases hs : allPlainL ims with
        | true => exact absurd (.inr hs) h2
        | false => rfl
theorem isSub_facts {ims : List (List Nd)} (h : isSub ims = true) : ims.length = 6 ∧ ∀ x ∈ ims, x.length ≤ 40 := by
  simp only [isSub, Bool.and_eq_true, decide_eq_true_eq] at h
  exact ⟨h.2, fun x hx => (isFm_ok (allFm_all h.1 x hx)).2⟩
theorem ruleErr_zero {xs : List (List Nd)} {c : List Nd} (h : ruleErr xs c = 0) : xs.length ≤ 6 ∧ ∀ x ∈ xs ++ [c], x.all okNd = true ∧ x.length ≤ 40 := by
  unfold ruleErr at h
  split at h
  · omega
  · refine ⟨by omega, fun x hx => ?_⟩
    unfold plainErrs at h
    split at h
    · rename_i h1
      exact isFm_ok (allFm_all h1 x hx)
    · omega
/-- the rule that a substitution makes of a rule, and the error -/
def irE (xs : List (List Nd)) (c : List Nd) (ims : List (List Nd)) : Int := if imgErr (ruleErr xs c) ims = 0 then (if bigL ((xs ++ [c]).map (sub ims)) then 3 else 0) else imgErr (ruleErr xs c) ims
def irP (xs : List (List Nd)) (c : List Nd) (ims : List (List Nd)) : List (List Nd) := if irE xs c ims = 0 then xs.map (sub ims) else []
def irC (xs : List (List Nd)) (c : List Nd) (ims : List (List Nd)) : List Nd := if irE xs c ims = 0 then sub ims c else []
section
variable {xs : List (List Nd)} {c : List Nd} {ims : List (List Nd)}
theorem irE_err (h : ¬ imgErr (ruleErr xs c) ims = 0) : irE xs c ims = imgErr (ruleErr xs c) ims ∧ irP xs c ims = [] ∧ irC xs c ims = [] := by
  have e : irE xs c ims = imgErr (ruleErr xs c) ims := by unfold irE; rw [if_neg h]
  exact ⟨e, by unfold irP; rw [if_neg (by rw [e]; exact h)], by unfold irC; rw [if_neg (by rw [e]; exact h)]⟩
theorem irE_big (h : imgErr (ruleErr xs c) ims = 0) (hb : bigL ((xs ++ [c]).map (sub ims)) = true) : irE xs c ims = 3 ∧ irP xs c ims = [] ∧ irC xs c ims = [] := by
  have e : irE xs c ims = 3 := by unfold irE; rw [if_pos h, hb]; rfl
  exact ⟨e, by unfold irP; rw [if_neg (by rw [e]; omega)], by unfold irC; rw [if_neg (by rw [e]; omega)]⟩
theorem irE_ok (h : imgErr (ruleErr xs c) ims = 0) (hb : bigL ((xs ++ [c]).map (sub ims)) = false) : irE xs c ims = 0 ∧ irP xs c ims = xs.map (sub ims) ∧ irC xs c ims = sub ims c := by
  have e : irE xs c ims = 0 := by unfold irE; rw [if_pos h, hb]; rfl
  exact ⟨e, by unfold irP; rw [if_pos e], by unfold irC; rw [if_pos e]⟩
theorem ir_len : (irP xs c ims).length ≤ 1000 ∧ tot (irP xs c ims) + (irC xs c ims).length ≤ 1000 := by
  by_cases h : imgErr (ruleErr xs c) ims = 0
  · cases hb : bigL ((xs ++ [c]).map (sub ims))
    · obtain ⟨_, e1, e2⟩ := irE_ok h hb
      rw [e1, e2]
      obtain ⟨hr, _, _⟩ := imgErr_zero h
      obtain ⟨h6, _⟩ := ruleErr_zero hr
      have hs := not_big hb
      have h1 : (sub ims c).length ≤ 40 := hs _ (by simp)
      have h2 : tot (xs.map (sub ims)) ≤ 40 * (xs.map (sub ims)).length := tot_bound _ 40 (fun x hx => hs x (by rw [List.map_append]; exact List.mem_append.2 (.inl hx)))
      simp at h2 ⊢
      omega
    · obtain ⟨_, e1, e2⟩ := irE_big h hb
      rw [e1, e2]; simp [tot]
  · obtain ⟨_, e1, e2⟩ := irE_err h
    rw [e1, e2]; simp [tot]
end
--
set_option maxRecDepth 20000 in
set_option maxHeartbeats 2000000 in
theorem imageOf_any (xs : List (List Nd)) (c : List Nd) (ims : List (List Nd)) (v u vi : Value) (w : World) (hv : NdsL w v xs) (hu : Nds w u c) (hvi : NdsL w vi ims) (ha : ∀ a ∈ xs ++ [c], a.all okNd = true) (h6 : ims.length = 6)
    (hl : ∀ a ∈ xs ++ [c], (sub ims a).length ≤ 100000) (hll : xs.length ≤ 1000) :
    Calls Try.prog 66 #[.agg #[v, u], vi] w fun e w' => ∃ v' u', e = .returned (.agg #[v', u']) ∧ OwnR w' w.heap.size v' u' (xs.map (sub ims)) (sub ims c) ∧ Keeps w w' := by
  obtain ⟨p1, n1, q1, rfl⟩ := agg_shape hv
  obtain ⟨p2, n2, q2, rfl⟩ := hu.shape
  obtain ⟨p3, n3, q3, rfl⟩ := agg_shape hvi
  have kA := (((Keeps.refl w).alloc (.cells #[.slice p1 n1 q1, .slice p2 n2 q2] 27)).alloc (.cells #[.slice none 0 0, .slice none 0 0] 27)).drew
  have pa : ((w.alloc (.cells #[.slice p1 n1 q1, .slice p2 n2 q2] 27)).alloc (.cells #[.slice none 0 0, .slice none 0 0] 27)).drew.cell? ⟨w.heap.size, 0, none⟩ = some (.slice p1 n1 q1) := by show (World.alloc _ _).cell? _ = _; rw [World.cell?_alloc_lt (h := by simp)]; simp
  have pb : ((w.alloc (.cells #[.slice p1 n1 q1, .slice p2 n2 q2] 27)).alloc (.cells #[.slice none 0 0, .slice none 0 0] 27)).drew.cell? ⟨w.heap.size, 1, none⟩ = some (.slice p2 n2 q2) := by show (World.alloc _ _).cell? _ = _; rw [World.cell?_alloc_lt (h := by simp)]; simp
  have HC := hid (composed_any ims xs _ _ _ (hv.keeps kA) (hvi.keeps kA) (fun a h => ha a (List.mem_append.2 (.inl h))) h6 (fun a h => hl a (List.mem_append.2 (.inl h))) hll)
  have HS := hid (fun w2 (k : Keeps w w2) => substitute_any ims c _ _ w2 (hu.keeps k) (hvi.keeps k) (ha c (by simp)) h6 (by have := hl c (by simp); omega))
  clear hv hu hvi ha hl h6
  go_enter Try.func66, Try.ntmps66
  go_wp2_with fail
  go_region_held3 (fun w' => w'.cell? ⟨w.heap.size, 0, none⟩ = some (.slice p1 n1 q1) ∧ w'.cell? ⟨w.heap.size, 1, none⟩ = some (.slice p2 n2 q2)) (first | exact ⟨pa, pb⟩ | exact ⟨qa, qb⟩ | exact ⟨ra, rb⟩ | (constructor <;> (rw [World.cell?_setCell_far _ _ _ _ (by simp), World.cell?_setCell_far _ _ _ _ (by simp)]; first | exact ra | exact rb))) (first
    | (go_at_call 106; refine HC.out.mono ?_; rintro e w2 ⟨v2, rfl, hv2, k2⟩; have qa := k2.cell pa; have qb := k2.cell pb; obtain ⟨p4, n4, q4, rfl⟩ : ∃ p n c, v2 = .slice p n c := (by obtain ⟨vs, ho, _⟩ := hv2; obtain ⟨p, c, e, _⟩ := At.of_own ho; exact ⟨p, _, c, e⟩))
    | (go_at_call 107; refine (HS.out w2 (kA.trans k2)).mono ?_; rintro e w3 ⟨v3, rfl, hv3, k3⟩; have ra := k3.cell qa; have rb := k3.cell qb; obtain ⟨p5, n5, q5, rfl⟩ : ∃ p n c, v3 = .slice p n c := (by obtain ⟨p, c, e, _⟩ := At.of_own hv3; exact ⟨p, _, c, e⟩); obtain ⟨hc3, hf3⟩ := (k2.trans k3).both))
  have hR := OwnR.of hv2 k3 hv3 k2.size
  go_wp2
  refine bodyPost_ret (v := .agg #[.slice p4 n4 q4, .slice p5 n5 q5]) (by simp [results, Try.results66, go_sem, hc3]) rfl ?_
  exact ⟨_, _, rfl, ((hR.setBelow (by simp) _).setBelow (by simp) _).mono (by simp; omega), ((kA.trans (k2.trans k3)).setCell (by simp) _).setCell (by simp) _⟩
--
set_option maxRecDepth 20000 in
set_option maxHeartbeats 4000000 in
theorem implImageOfRule_any (xs : List (List Nd)) (c : List Nd) (ims : List (List Nd)) (v u vi : Value) (w : World) (hv : NdsL w v xs) (hu : Nds w u c) (hvi : NdsL w vi ims) :
    Calls Try.prog 21 #[.agg #[v, u], vi] w (RetRE w (irP xs c ims) (irC xs c ims) (irE xs c ims)) := by
  obtain ⟨p1, n1, q1, rfl⟩ := agg_shape hv
  obtain ⟨p2, n2, q2, rfl⟩ := hu.shape
  obtain ⟨p3, n3, q3, rfl⟩ := agg_shape hvi
  have kA := ((Keeps.refl w).alloc (.cells #[.slice p1 n1 q1, .slice p2 n2 q2] 27)).alloc (.cells #[.slice none 0 0, .slice none 0 0] 27)
  have pa : ((w.alloc (.cells #[.slice p1 n1 q1, .slice p2 n2 q2] 27)).alloc (.cells #[.slice none 0 0, .slice none 0 0] 27)).cell? ⟨w.heap.size, 0, none⟩ = some (.slice p1 n1 q1) := by rw [World.cell?_alloc_lt (h := by simp)]; simp
  have pb : ((w.alloc (.cells #[.slice p1 n1 q1, .slice p2 n2 q2] 27)).alloc (.cells #[.slice none 0 0, .slice none 0 0] 27)).cell? ⟨w.heap.size, 1, none⟩ = some (.slice p2 n2 q2) := by rw [World.cell?_alloc_lt (h := by simp)]; simp
  have hb1 : w.heap.size + 1 < ((w.alloc (.cells #[.slice p1 n1 q1, .slice p2 n2 q2] 27)).alloc (.cells #[.slice none 0 0, .slice none 0 0] 27)).heap.size := by simp
  have HR := hid (ruleCode_nil xs c _ _ _ (hv.keeps kA) (hu.keeps kA))
  have HM := hid (fun w2 (k : Keeps w w2) => imagesCode_any (ruleErr xs c) ims _ w2 (hvi.keeps k))
  by_cases h : imgErr (ruleErr xs c) ims = 0
  · obtain ⟨hr0, hs0, _⟩ := imgErr_zero h
    obtain ⟨hx6, hall⟩ := ruleErr_zero hr0
    obtain ⟨h6, hi40⟩ := isSub_facts hs0
    have hl : ∀ a ∈ xs ++ [c], (sub ims a).length ≤ 1600 := fun a ha => by
      have h1 := sub_len hi40 (by omega) a
      have h2 := (hall a ha).2
      have h3 : 40 * a.length ≤ 40 * 40 := Nat.mul_le_mul_left _ h2
      omega
    have HI := hid (fun w2 (k : Keeps w w2) => imageOf_any xs c ims _ _ _ w2 (hv.keeps k) (hu.keeps k) (hvi.keeps k) (fun a ha => (hall a ha).1) h6 (fun a ha => by have := hl a ha; omega) (by omega))
    have HL := hid hl; clear hl
    rw [h] at HM
    rw [hr0] at HR HM
    have H0 := hid h; clear h
    clear hv hu hvi hall hi40 hr0 hs0 h6
    cases hb : bigL ((xs ++ [c]).map (sub ims))
    · have HB := hid hb; clear hb
      obtain ⟨e1, e2, e3⟩ := irE_ok H0.out HB.out
      rw [e1, e2, e3]
      clear e1 e2 e3
      go_enter Try.func21, Try.ntmps21
      go_wp2_with fail
      refine HR.out.mono ?_; rintro e w2 ⟨rfl, k2⟩
      go_wp2_with fail
      refine (HM.out w2 (kA.trans k2)).mono ?_; rintro e w3 ⟨rfl, k3⟩
      have k03 := k2.trans k3
      have qa := k03.cell pa
      have qb := k03.cell pb
      go_wp2_with fail
      refine (HI.out w3 (kA.trans k03)).mono ?_; rintro e w4 ⟨v4, u4, rfl, ho4, k4⟩
      have ht4 : tot (xs.map (sub ims)) ≤ 100000 := by
        have := tot_bound (xs.map (sub ims)) 1600 (fun y hy => by obtain ⟨a, ha, rfl⟩ := List.mem_map.1 hy; exact HL.out a (List.mem_append.2 (.inl ha)))
        simp at this; omega
      have hc4 : (sub ims c).length ≤ 1600 := HL.out c (by simp)
      have hv4 := ho4.ndsL (by simp; omega) (by omega)
      have hu4 := ho4.nds (by omega)
      obtain ⟨p4, n4, q4, rfl⟩ := agg_shape hv4
      obtain ⟨p5, n5, q5, rfl⟩ := hu4.shape
      have kb := (Keeps.refl w4).alloc (.cells #[.slice p4 n4 q4, .slice p5 n5 q5] 27)
      have ta : (w4.alloc (.cells #[.slice p4 n4 q4, .slice p5 n5 q5] 27)).cell? ⟨w4.heap.size, 0, none⟩ = some (.slice p4 n4 q4) := by simp
      have tb : (w4.alloc (.cells #[.slice p4 n4 q4, .slice p5 n5 q5] 27)).cell? ⟨w4.heap.size, 1, none⟩ = some (.slice p5 n5 q5) := by simp
      have HF := hid (formulas_any _ _ _ _ _ (hv4.keeps kb) (hu4.keeps kb) (by simp; omega))
      have hsz3 := k03.size
      simp at hsz3
      go_wp2_with fail
      refine HF.out.mono ?_; rintro e w5 ⟨v5, rfl, hv5, k5⟩
      obtain ⟨p6, n6, q6, rfl⟩ := agg_shape hv5
      have k05 := (k03.trans k4).trans (kb.trans k5)
      clear hv4 hu4
      have HBX := HB.out
      rw [show ((xs ++ [c]).map (sub ims)) = xs.map (sub ims) ++ [sub ims c] by simp] at HBX
      have HLA := hid (limitedAll_small _ _ _ hv5 HBX)
      clear HBX
      go_wp2_with fail
      refine HLA.out.mono ?_; rintro e w6 ⟨rfl, k6⟩
      have k06 := k05.trans k6
      obtain ⟨hc6, hf6⟩ := k06.both
      have ta6 := (k5.trans k6).cell ta
      have tb6 := (k5.trans k6).cell tb
      have ho6 := ho4.keeps (kb.trans (k5.trans k6))
      have hs4 := k03.size
      clear ho4 hv5
      go_wp2_with fail
      refine bodyPost_ret (v := .tuple #[.agg #[.slice p4 n4 q4, .slice p5 n5 q5], .int .i64 0]) (by simp [results, Try.results21, go_sem, hc6]) rfl ?_
      exact ⟨_, _, rfl, ((ho6.setBelow (b := w.heap.size + 1) (by omega) _).setBelow (b := w.heap.size + 1) (by omega) _).mono (by omega), ((kA.trans k06).setCell (by simp) _).setCell (by simp) _⟩
    · have HB := hid hb; clear hb
      obtain ⟨e1, e2, e3⟩ := irE_big H0.out HB.out
      rw [e1, e2, e3]
      clear e1 e2 e3
      go_enter Try.func21, Try.ntmps21
      go_wp2_with fail
      refine HR.out.mono ?_; rintro e w2 ⟨rfl, k2⟩
      go_wp2_with fail
      refine (HM.out w2 (kA.trans k2)).mono ?_; rintro e w3 ⟨rfl, k3⟩
      have k03 := k2.trans k3
      have qa := k03.cell pa
      have qb := k03.cell pb
      go_wp2_with fail
      refine (HI.out w3 (kA.trans k03)).mono ?_; rintro e w4 ⟨v4, u4, rfl, ho4, k4⟩
      have ht4 : tot (xs.map (sub ims)) ≤ 100000 := by
        have := tot_bound (xs.map (sub ims)) 1600 (fun y hy => by obtain ⟨a, ha, rfl⟩ := List.mem_map.1 hy; exact HL.out a (List.mem_append.2 (.inl ha)))
        simp at this; omega
      have hc4 : (sub ims c).length ≤ 1600 := HL.out c (by simp)
      have hv4 := ho4.ndsL (by simp; omega) (by omega)
      have hu4 := ho4.nds (by omega)
      obtain ⟨p4, n4, q4, rfl⟩ := agg_shape hv4
      obtain ⟨p5, n5, q5, rfl⟩ := hu4.shape
      have kb := (Keeps.refl w4).alloc (.cells #[.slice p4 n4 q4, .slice p5 n5 q5] 27)
      have ta : (w4.alloc (.cells #[.slice p4 n4 q4, .slice p5 n5 q5] 27)).cell? ⟨w4.heap.size, 0, none⟩ = some (.slice p4 n4 q4) := by simp
      have tb : (w4.alloc (.cells #[.slice p4 n4 q4, .slice p5 n5 q5] 27)).cell? ⟨w4.heap.size, 1, none⟩ = some (.slice p5 n5 q5) := by simp
      have HF := hid (formulas_any _ _ _ _ _ (hv4.keeps kb) (hu4.keeps kb) (by simp; omega))
      have hsz3 := k03.size
      simp at hsz3
      go_wp2_with fail
      refine HF.out.mono ?_; rintro e w5 ⟨v5, rfl, hv5, k5⟩
      obtain ⟨p6, n6, q6, rfl⟩ := agg_shape hv5
      have k05 := (k03.trans k4).trans (kb.trans k5)
      clear hv4 hu4
      have HBX := HB.out
      rw [show ((xs ++ [c]).map (sub ims)) = xs.map (sub ims) ++ [sub ims c] by simp] at HBX
      have HLA := hid (limitedAll_big _ _ _ hv5 HBX)
      clear HBX
      go_wp2_with fail
      refine HLA.out.mono ?_; rintro e w6 ⟨rfl, k6⟩
      have k06 := k05.trans k6
      obtain ⟨hc6, hf6⟩ := k06.both
      clear ho4 hv5
      go_wp2_with fail
      refine bodyPost_ret (v := .tuple #[.agg #[.slice none 0 0, .slice none 0 0], .int .i64 3]) (by simp [results, Try.results21, go_sem, hc6]) rfl ?_
      exact ⟨_, _, rfl, OwnR.nil _ _, ((kA.trans k06).setCell (by simp) _).setCell (by simp) _⟩
  · obtain ⟨e1, e2, e3⟩ := irE_err h
    rw [e1, e2, e3]
    clear e1 e2 e3
    have hne : (imgErr (ruleErr xs c) ims != 0) = true := by simp [h]
    generalize imgErr (ruleErr xs c) ims = E at *
    have H := hid h; clear h
    clear hv hu hvi
    go_enter Try.func21, Try.ntmps21
    go_wp2_with fail
    refine HR.out.mono ?_; rintro e w2 ⟨rfl, k2⟩
    go_wp2_with fail
    refine (HM.out w2 (kA.trans k2)).mono ?_; rintro e w3 ⟨rfl, k3⟩
    have k03 := k2.trans k3
    obtain ⟨hc3, hf3⟩ := k03.both
    go_wp2_with fail
    refine bodyPost_ret (v := .tuple #[.agg #[.slice none 0 0, .slice none 0 0], .int .i64 E]) (by simp [results, Try.results21, go_sem, hc3]) rfl ?_
    exact ⟨_, _, rfl, OwnR.nil _ _, ((kA.trans k03).setCell (by simp) _).setCell (by simp) _⟩
end Go.Proofs.Ytjmpiedjhdogeaa
