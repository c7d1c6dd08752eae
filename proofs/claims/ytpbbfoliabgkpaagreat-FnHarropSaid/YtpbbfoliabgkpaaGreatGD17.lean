/- From a walk's end to a row's end: a law that answers true and keeps the memory meets its row. -/
import Derived.Test.YtpbbfoliabgkpaaGreatRows
import Derived.Test.YtpbbfoliabgkpaaGreatGBase
import Derived.ProofKit
import Derived.OpenShut
import Derived.Deep.Slices
import Derived.Deep.Fields
import Derived.ChangeSame
import Derived.Test.YtpbbfoliabgkpaaGreatGD4
import Derived.Test.YtpbbfoliabgkpaaGreatGY9
import Derived.Test.YtpbbfoliabgkpaaGreatGPH
import Derived.Test.YtpbbfoliabgkpaaGreatGM5
import Derived.Test.YtpbbfoliabgkpaaGreatGSC
import Derived.Test.YtpbbfoliabgkpaaGreatGD16
import Derived.Test.YtpbbfoliabgkpaaGreatGYB
import Derived.Test.YtpbbfoliabgkpaaGreatGY6
import Derived.Test.YtpbbfoliabgkpaaGreatGU3
namespace Go.Proofs.YtpbbfoliabgkpaaGreat
open Go.ChangeShapes Go.WideShapes Go.ChangeAt Go.RowKit Go.Deep

theorem own : ownKnob Tryz.prog.godebug = none := by kernel_rfl
theorem laidOut : laidOutB Tryz.prog = true := by kernel_rfl

section
variable {H : Type} {enc : TypeId × Value → H}
theorem trodAll_stays {W W' : World} (hk : Keeps W W') : ∀ (ts : List TypeId) (vs : List Value) (ds : List (DataW H)) (ps : List MemPlace),
    (∀ t ∈ ts, Tryz.prog.readableRec t = true ∧ t < Tryz.prog.types.size) → (∀ x ∈ ps, x.block < W.heap.size) →
    DataW.TrodAll enc Tryz.prog W 0 (fun _ => true) true ts vs ds ps → DataW.TrodAll enc Tryz.prog W' 0 (fun b => decide (b < W.heap.size)) true ts vs ds ps := by
  intro ts
  induction ts with
  | nil =>
    intro vs ds ps _ _ h
    cases vs <;> cases ds <;> simp [DataW.TrodAll] at h ⊢
    exact h
  | cons t ts ih =>
    intro vs ds ps hr hlt h
    obtain ⟨v, vs', d, ds', p, q, rfl, rfl, rfl, h1, h2⟩ := trodAll_cons h
    obtain ⟨hr1, hr2⟩ := hr t (List.mem_cons_self ..)
    have g1 := Below.trod laidOut hr1 hr2 h1 hk (fun x hx => hlt x (List.mem_append.2 (.inl hx)))
    have g2 := ih _ _ _ (fun t ht => hr t (List.mem_cons_of_mem _ ht)) (fun x hx => hlt x (List.mem_append.2 (.inr hx))) h2
    exact trodAll_cons_mk g1 g2
theorem lawPost {f : Func} {s : ChangeSpec} {W W' : World} {args : Array Value} {ds gs : List (DataW H)} {before : List MemPlace}
    (hW : DataW.Whole enc Tryz.prog f.params.toList s.vars false W args.toList ds gs before) (hvars : s.vars = [])
    (hfn : s.fn H (ds ++ gs) = { results := [.lit (.bool true)], args := ds }) (hres : f.resultTypes = #[4])
    (hr : ∀ t ∈ f.params.toList, Tryz.prog.readableRec t = true ∧ t < Tryz.prog.types.size) (hk : Keeps W W') :
    s.post enc Tryz.prog f false true false false W args (.bool true) W' := by
  have hW' := hW
  obtain ⟨p, q, hA, hV, rfl, _, _⟩ := hW
  have hlt : ∀ x ∈ p, x.block < W.heap.size := fun x hx => hW'.lt x (List.mem_append.2 (.inl hx))
  refine ⟨ds, gs, _, [], p, [], hW', ?_, ?_, ?_, Below.frame hk _, fun h => by cases h⟩
  · rw [hfn, hres]
    exact trodAll_cons_mk (shut_bool Tryz.underlying4 _) trodAll_mk0
  · rw [hfn]
    exact trodAll_stays hk _ _ _ _ hr hlt hA
  · rw [hfn, hvars]
    rfl
end
end Go.Proofs.YtpbbfoliabgkpaaGreat
/- Arguments of the laws: bytes. -/
namespace Go.Proofs.YtpbbfoliabgkpaaGreat
open Go.ChangeShapes Go.WideShapes Go.ChangeAt Go.RowKit Go.Deep
set_option maxRecDepth 100000 in
/-- a slice of bytes -/
theorem open_bytes {H : Type} {enc : TypeId × Value → H} {W : World} {v : Value} {d : DataW H} {ps : List MemPlace} {r : Reach} {b0 : Nat} (hval : Value.okWide Tryz.prog W r b0 22 v)
    (h : DataW.Trod enc Tryz.prog W 0 (fun _ => true) true 22 v d ps) :
    ∃ p n cap, v = .slice p n cap ∧ n ≤ maxLen ∧ Bts W v n := by
  obtain ⟨p, n, cap, rfl⟩ := okWide_slice Tryz.underlying22 hval
  obtain ⟨fuel, hf⟩ := h
  have hC : Tryz.prog.cellsOf 5 = 1 := by kernel_rfl
  rcases open_slice1 Tryz.underlying22 hC hf with ⟨hcs, _⟩ | ⟨a, len, cap', m, n', V, D, Pl, hcs, _, hl, hm, hmm, _, hi⟩
  · simp [Value.cells] at hcs
    obtain ⟨rfl, rfl, rfl⟩ := hcs
    exact ⟨none, 0, 0, rfl, by simp [maxLen], none, 0, rfl, by simp, by simp [maxLen], fun j hj => by omega⟩
  · simp [Value.cells] at hcs
    obtain ⟨rfl, rfl, rfl⟩ := hcs
    simp at hmm
    refine ⟨some a, n, cap, rfl, by omega, some a, cap, rfl, hl, hm, fun j hj => ?_⟩
    obtain ⟨hc, ht⟩ := hi j (by omega)
    obtain ⟨x, hx, _, hwf⟩ := DataW.trod_int Tryz.underlying5 ht
    simp at hx
    rw [hx] at hc
    have hr : 0 ≤ x ∧ x < 256 := by
      simp [Lit.wf, IntKind.min, IntKind.max, IntKind.bits, IntKind.signed] at hwf
      omega
    obtain ⟨b, off, spot⟩ := a
    have hs : spot = none := by simpa [Addr.add] using World.cell?_spot (hi 0 (by omega)).1
    subst hs
    have hadd : (⟨b, off, none⟩ : Addr).add j = ⟨b, off + j, none⟩ := by unfold Addr.add; split <;> simp_all
    rw [hadd] at hc
    exact ⟨b, off, x.toNat, rfl, by rw [hc]; congr 2; omega, by omega, World.block_lt_of_cell? _ _ hc⟩
end Go.Proofs.YtpbbfoliabgkpaaGreat
/- Images of rules on both sides. -/
namespace Go.Proofs.YtpbbfoliabgkpaaGreat
open Go.RowKit
/-- the rule that a substitution makes of a rule, and the error -/
def irE (xs : List (List Nd)) (c : List Nd) (ims : List (List Nd)) : Int := if imgErr (ruleErr xs c) ims = 0 then (if bigL ((xs ++ [c]).map (sub ims)) then 3 else 0) else imgErr (ruleErr xs c) ims
def irP (xs : List (List Nd)) (c : List Nd) (ims : List (List Nd)) : List (List Nd) := if irE xs c ims = 0 then xs.map (sub ims) else []
def irC (xs : List (List Nd)) (c : List Nd) (ims : List (List Nd)) : List Nd := if irE xs c ims = 0 then sub ims c else []
section
variable {xs : List (List Nd)} {c : List Nd} {ims : List (List Nd)}
theorem irE_err (h : ¬ imgErr (ruleErr xs c) ims = 0) : irE xs c ims = imgErr (ruleErr xs c) ims ∧ irP xs c ims = [] ∧ irC xs c ims = [] := by
  have e : irE xs c ims = imgErr (ruleErr xs c) ims := by unfold irE; rw [if_neg h]
  exact ⟨e, by unfold irP; rw [if_neg (by rw [e]; exact h)], by unfold irC; rw [if_neg (by rw [e]; exact h)]⟩
theorem irE_big (h : imgErr (ruleErr xs c) ims = 0) (hb : bigL ((xs ++ [c]).map (sub ims)) = true) : irE xs c ims = 3 ∧ irP xs c ims = [] ∧ irC xs c ims = [] := by
  have e : irE xs c ims = 3 := by unfold irE; rw [if_pos h, hb]; rfl
  exact ⟨e, by unfold irP; rw [if_neg (by rw [e]; omega)], by unfold irC; rw [if_neg (by rw [e]; omega)]⟩
theorem irE_ok (h : imgErr (ruleErr xs c) ims = 0) (hb : bigL ((xs ++ [c]).map (sub ims)) = false) : irE xs c ims = 0 ∧ irP xs c ims = xs.map (sub ims) ∧ irC xs c ims = sub ims c := by
  have e : irE xs c ims = 0 := by unfold irE; rw [if_pos h, hb]; rfl
  exact ⟨e, by unfold irP; rw [if_pos e], by unfold irC; rw [if_pos e]⟩
theorem ir_len : (irP xs c ims).length ≤ 1000 ∧ tot (irP xs c ims) + (irC xs c ims).length ≤ 1000 := by
  by_cases h : imgErr (ruleErr xs c) ims = 0
  · cases hb : bigL ((xs ++ [c]).map (sub ims))
    · obtain ⟨_, e1, e2⟩ := irE_ok h hb
      rw [e1, e2]
      obtain ⟨hr, _, _⟩ := imgErr_zero h
      obtain ⟨h6, _⟩ := ruleErr_zero hr
      have hs := not_big hb
      have h1 : (sub ims c).length ≤ 40 := hs _ (by simp)
      have h2 : tot (xs.map (sub ims)) ≤ 40 * (xs.map (sub ims)).length := tot_bound _ 40 (fun x hx => hs x (by rw [List.map_append]; exact List.mem_append.2 (.inl hx)))
      simp at h2 ⊢
      omega
    · obtain ⟨_, e1, e2⟩ := irE_big h hb
      rw [e1, e2]; simp [tot]
  · obtain ⟨_, e1, e2⟩ := irE_err h
    rw [e1, e2]; simp [tot]
end
--
set_option maxRecDepth 20000 in
set_option maxHeartbeats 4000000 in
theorem implImageOfRule_any (xs : List (List Nd)) (c : List Nd) (ims : List (List Nd)) (v u vi : Value) (w : World) (hv : NdsL w v xs) (hu : Nds w u c) (hvi : NdsL w vi ims) :
    Calls Tryz.prog 20 #[.agg #[v, u], vi] w (RetRE w (irP xs c ims) (irC xs c ims) (irE xs c ims)) := by
  obtain ⟨p1, n1, q1, rfl⟩ := agg_shape hv
  obtain ⟨p2, n2, q2, rfl⟩ := hu.shape
  obtain ⟨p3, n3, q3, rfl⟩ := agg_shape hvi
  have kA := ((Keeps.refl w).alloc (.cells #[.slice p1 n1 q1, .slice p2 n2 q2] 37)).alloc (.cells #[.slice none 0 0, .slice none 0 0] 37)
  have pa : ((w.alloc (.cells #[.slice p1 n1 q1, .slice p2 n2 q2] 37)).alloc (.cells #[.slice none 0 0, .slice none 0 0] 37)).cell? ⟨w.heap.size, 0, none⟩ = some (.slice p1 n1 q1) := by rw [World.cell?_alloc_lt (h := by simp)]; simp
  have pb : ((w.alloc (.cells #[.slice p1 n1 q1, .slice p2 n2 q2] 37)).alloc (.cells #[.slice none 0 0, .slice none 0 0] 37)).cell? ⟨w.heap.size, 1, none⟩ = some (.slice p2 n2 q2) := by rw [World.cell?_alloc_lt (h := by simp)]; simp
  have hb1 : w.heap.size + 1 < ((w.alloc (.cells #[.slice p1 n1 q1, .slice p2 n2 q2] 37)).alloc (.cells #[.slice none 0 0, .slice none 0 0] 37)).heap.size := by simp
  have HR := hid (ruleCode_nil xs c _ _ _ (hv.keeps kA) (hu.keeps kA))
  have HM := hid (fun w2 (k : Keeps w w2) => imagesCode_any (ruleErr xs c) ims _ w2 (hvi.keeps k))
  by_cases h : imgErr (ruleErr xs c) ims = 0
  · obtain ⟨hr0, hs0, _⟩ := imgErr_zero h
    obtain ⟨hx6, hall⟩ := ruleErr_zero hr0
    obtain ⟨h6, hi40⟩ := isSub_facts hs0
    have hl : ∀ a ∈ xs ++ [c], (sub ims a).length ≤ 1600 := fun a ha => by
      have h1 := sub_len hi40 (by omega) a
      have h2 := (hall a ha).2
      have h3 : 40 * a.length ≤ 40 * 40 := Nat.mul_le_mul_left _ h2
      omega
    have HI := hid (fun w2 (k : Keeps w w2) => imageOf_any xs c ims _ _ _ w2 (hv.keeps k) (hu.keeps k) (hvi.keeps k) (fun a ha => (hall a ha).1) h6 (fun a ha => by have := hl a ha; omega) (by omega))
    have HL := hid hl; clear hl
    rw [h] at HM
    rw [hr0] at HR HM
    have H0 := hid h; clear h
    clear hv hu hvi hall hi40 hr0 hs0 h6
    cases hb : bigL ((xs ++ [c]).map (sub ims))
    · have HB := hid hb; clear hb
      obtain ⟨e1, e2, e3⟩ := irE_ok H0.out HB.out
      rw [e1, e2, e3]
      clear e1 e2 e3
      go_enter Tryz.func20, Tryz.ntmps20
      go_wp2_with fail
      refine HR.out.mono ?_; rintro e w2 ⟨rfl, k2⟩
      go_wp2_with fail
      refine (HM.out w2 (kA.trans k2)).mono ?_; rintro e w3 ⟨rfl, k3⟩
      have k03 := k2.trans k3
      have qa := k03.cell pa
      have qb := k03.cell pb
      go_wp2_with fail
      refine (HI.out w3 (kA.trans k03)).mono ?_; rintro e w4 ⟨v4, u4, rfl, ho4, k4⟩
      have ht4 : tot (xs.map (sub ims)) ≤ 100000 := by
        have := tot_bound (xs.map (sub ims)) 1600 (fun y hy => by obtain ⟨a, ha, rfl⟩ := List.mem_map.1 hy; exact HL.out a (List.mem_append.2 (.inl ha)))
        simp at this; omega
      have hc4 : (sub ims c).length ≤ 1600 := HL.out c (by simp)
      have hv4 := ho4.ndsL (by simp; omega) (by omega)
      have hu4 := ho4.nds (by omega)
      obtain ⟨p4, n4, q4, rfl⟩ := agg_shape hv4
      obtain ⟨p5, n5, q5, rfl⟩ := hu4.shape
      have kb := (Keeps.refl w4).alloc (.cells #[.slice p4 n4 q4, .slice p5 n5 q5] 37)
      have ta : (w4.alloc (.cells #[.slice p4 n4 q4, .slice p5 n5 q5] 37)).cell? ⟨w4.heap.size, 0, none⟩ = some (.slice p4 n4 q4) := by simp
      have tb : (w4.alloc (.cells #[.slice p4 n4 q4, .slice p5 n5 q5] 37)).cell? ⟨w4.heap.size, 1, none⟩ = some (.slice p5 n5 q5) := by simp
      have HF := hid (formulas_any _ _ _ _ _ (hv4.keeps kb) (hu4.keeps kb) (by simp; omega))
      have hsz3 := k03.size
      simp at hsz3
      go_wp2_with fail
      refine HF.out.mono ?_; rintro e w5 ⟨v5, rfl, hv5, k5⟩
      obtain ⟨p6, n6, q6, rfl⟩ := agg_shape hv5
      have k05 := (k03.trans k4).trans (kb.trans k5)
      clear hv4 hu4
      have HBX := HB.out
      rw [show ((xs ++ [c]).map (sub ims)) = xs.map (sub ims) ++ [sub ims c] by simp] at HBX
      have HLA := hid (limitedAll_small _ _ _ hv5 HBX)
      clear HBX
      go_wp2_with fail
      refine HLA.out.mono ?_; rintro e w6 ⟨rfl, k6⟩
      have k06 := k05.trans k6
      obtain ⟨hc6, hf6⟩ := k06.both
      have ta6 := (k5.trans k6).cell ta
      have tb6 := (k5.trans k6).cell tb
      have ho6 := ho4.keeps (kb.trans (k5.trans k6))
      have hs4 := k03.size
      clear ho4 hv5
      go_wp2_with fail
      refine bodyPost_ret (v := .tuple #[.agg #[.slice p4 n4 q4, .slice p5 n5 q5], .int .i64 0]) (by simp [results, Tryz.results20, go_sem, hc6]) rfl ?_
      exact ⟨_, _, rfl, ((ho6.setBelow (b := w.heap.size + 1) (by omega) _).setBelow (b := w.heap.size + 1) (by omega) _).mono (by omega), ((kA.trans k06).setCell (by simp) _).setCell (by simp) _⟩
    · have HB := hid hb; clear hb
      obtain ⟨e1, e2, e3⟩ := irE_big H0.out HB.out
      rw [e1, e2, e3]
      clear e1 e2 e3
      go_enter Tryz.func20, Tryz.ntmps20
      go_wp2_with fail
      refine HR.out.mono ?_; rintro e w2 ⟨rfl, k2⟩
      go_wp2_with fail
      refine (HM.out w2 (kA.trans k2)).mono ?_; rintro e w3 ⟨rfl, k3⟩
      have k03 := k2.trans k3
      have qa := k03.cell pa
      have qb := k03.cell pb
      go_wp2_with fail
      refine (HI.out w3 (kA.trans k03)).mono ?_; rintro e w4 ⟨v4, u4, rfl, ho4, k4⟩
      have ht4 : tot (xs.map (sub ims)) ≤ 100000 := by
        have := tot_bound (xs.map (sub ims)) 1600 (fun y hy => by obtain ⟨a, ha, rfl⟩ := List.mem_map.1 hy; exact HL.out a (List.mem_append.2 (.inl ha)))
        simp at this; omega
      have hc4 : (sub ims c).length ≤ 1600 := HL.out c (by simp)
      have hv4 := ho4.ndsL (by simp; omega) (by omega)
      have hu4 := ho4.nds (by omega)
      obtain ⟨p4, n4, q4, rfl⟩ := agg_shape hv4
      obtain ⟨p5, n5, q5, rfl⟩ := hu4.shape
      have kb := (Keeps.refl w4).alloc (.cells #[.slice p4 n4 q4, .slice p5 n5 q5] 37)
      have ta : (w4.alloc (.cells #[.slice p4 n4 q4, .slice p5 n5 q5] 37)).cell? ⟨w4.heap.size, 0, none⟩ = some (.slice p4 n4 q4) := by simp
      have tb : (w4.alloc (.cells #[.slice p4 n4 q4, .slice p5 n5 q5] 37)).cell? ⟨w4.heap.size, 1, none⟩ = some (.slice p5 n5 q5) := by simp
      have HF := hid (formulas_any _ _ _ _ _ (hv4.keeps kb) (hu4.keeps kb) (by simp; omega))
      have hsz3 := k03.size
      simp at hsz3
      go_wp2_with fail
      refine HF.out.mono ?_; rintro e w5 ⟨v5, rfl, hv5, k5⟩
      obtain ⟨p6, n6, q6, rfl⟩ := agg_shape hv5
      have k05 := (k03.trans k4).trans (kb.trans k5)
      clear hv4 hu4
      have HBX := HB.out
      rw [show ((xs ++ [c]).map (sub ims)) = xs.map (sub ims) ++ [sub ims c] by simp] at HBX
      have HLA := hid (limitedAll_big _ _ _ hv5 HBX)
      clear HBX
      go_wp2_with fail
      refine HLA.out.mono ?_; rintro e w6 ⟨rfl, k6⟩
      have k06 := k05.trans k6
      obtain ⟨hc6, hf6⟩ := k06.both
      clear ho4 hv5
      go_wp2_with fail
      refine bodyPost_ret (v := .tuple #[.agg #[.slice none 0 0, .slice none 0 0], .int .i64 3]) (by simp [results, Tryz.results20, go_sem, hc6]) rfl ?_
      exact ⟨_, _, rfl, OwnR.nil _ _, ((kA.trans k06).setCell (by simp) _).setCell (by simp) _⟩
  · obtain ⟨e1, e2, e3⟩ := irE_err h
    rw [e1, e2, e3]
    clear e1 e2 e3
    have hne : (imgErr (ruleErr xs c) ims != 0) = true := by simp [h]
    generalize imgErr (ruleErr xs c) ims = E at *
    have H := hid h; clear h
    clear hv hu hvi
    go_enter Tryz.func20, Tryz.ntmps20
    go_wp2_with fail
    refine HR.out.mono ?_; rintro e w2 ⟨rfl, k2⟩
    go_wp2_with fail
    refine (HM.out w2 (kA.trans k2)).mono ?_; rintro e w3 ⟨rfl, k3⟩
    have k03 := k2.trans k3
    obtain ⟨hc3, hf3⟩ := k03.both
    go_wp2_with fail
    refine bodyPost_ret (v := .tuple #[.agg #[.slice none 0 0, .slice none 0 0], .int .i64 E]) (by simp [results, Tryz.results20, go_sem, hc3]) rfl ?_
    exact ⟨_, _, rfl, OwnR.nil _ _, ((kA.trans k03).setCell (by simp) _).setCell (by simp) _⟩
end Go.Proofs.YtpbbfoliabgkpaaGreat
/- What BreaksRule, IsDerivable and ImageOfRule answer, told of trees. -/
namespace Go.Proofs.YtpbbfoliabgkpaaGreat
open Go.RowKit
theorem enc_list_inj : ∀ {G H : List Fm}, G.map Fm.enc = H.map Fm.enc → G = H
  | [], [], _ => rfl
  | [], _ :: _, h => by simp at h
  | _ :: _, [], h => by simp at h
  | a :: G, b :: H, h => by
    simp only [List.map_cons, List.cons.injEq] at h
    rw [enc_inj h.1, enc_list_inj h.2]
/-- a rule of plain formulas, as trees -/
theorem rule_trees {xs : List (List Nd)} {c : List Nd} (h : ruleErr xs c = 0) : ∃ (G : List Fm) (t : Fm), xs = G.map Fm.enc ∧ c = t.enc ∧ OkL G ∧ OkF t := by
  have hpe : plainErrs (xs ++ [c]) = 0 := by
    unfold ruleErr at h
    split at h
    · omega
    · exact h
  obtain ⟨G, rfl, hG⟩ := list_trees (l := xs) (fun x hx => plain_each hpe x (List.mem_append.2 (.inl hx)))
  obtain ⟨t, hw, rfl, hpl, _⟩ := plain_tree (plain_each hpe c (by simp))
  exact ⟨G, t, rfl, rfl, hG, hw, hpl⟩
/-- a substitution of plain formulas, as trees -/
theorem ims_trees {ims : List (List Nd)} (hs : isSub ims = true) (hp : allPlainL ims = false) : ∃ σ : List Fm, ims = σ.map Fm.enc ∧ σ.length = 6 ∧ OkL σ := by
  obtain ⟨h6, _⟩ := isSub_facts hs
  have hall : ∀ x ∈ ims, plainErr x = 0 := by
    have hs' := hs
    simp only [isSub, Bool.and_eq_true, decide_eq_true_eq] at hs'
    intro x hx
    have h1 := allFm_all hs'.1 x hx
    have h2 : plainL x = true := by
      simp only [allPlainL, List.any_eq_false, Bool.not_eq_true', Bool.not_eq_false] at hp
      exact hp x hx
    simp [plainErr, h1, h2]
  obtain ⟨σ, rfl, hσ⟩ := list_trees hall
  exact ⟨σ, rfl, by simpa using h6, hσ⟩
/-- what a breaking is -/
def BrkIs (xs : List (List Nd)) (c : List Nd) (ims : List (List Nd)) (b : Bool) : Prop :=
  imgErr (ruleErr xs c) ims = 0 ∧ ∃ (G : List Fm) (t : Fm) (σ : List Fm), xs = G.map Fm.enc ∧ c = t.enc ∧ OkL G ∧ OkF t ∧ ims = σ.map Fm.enc ∧ σ.length = 6 ∧ OkL σ ∧ (∀ a ∈ G ++ [t], (sg σ a).enc.length ≤ 20) ∧ b = brk (G.map (sg σ)) (sg σ t)
theorem breaksFacts (xs : List (List Nd)) (c : List Nd) (ims : List (List Nd)) : ∃ b k, BothRL 17 16 xs c ims b k ∧ (k = 0 → BrkIs xs c ims b) := by
  by_cases h : imgErr (ruleErr xs c) ims = 0
  · obtain ⟨h0, hs, hp⟩ := imgErr_zero h
    obtain ⟨G, t, rfl, rfl, hG, ht⟩ := rule_trees h0
    obtain ⟨σ, rfl, h6, hσ⟩ := ims_trees hs hp
    have hGe : (G.map Fm.enc).map (sub (σ.map Fm.enc)) = (G.map (sg σ)).map Fm.enc := by
      rw [List.map_map, List.map_map]
      exact List.map_congr_left fun a ha => sub_sg σ h6 a (hG a ha)
    have hb := breaks_ok _ _ (σ.map Fm.enc) h (G.map (sg σ)) (sg σ t) (fun x hx => by obtain ⟨a, ha, rfl⟩ := List.mem_map.1 hx; exact sg_ok hσ a (hG a ha)) (sg_ok hσ t ht) hGe (sub_sg σ h6 t ht)
    refine ⟨_, _, hb, fun hk => ?_⟩
    by_cases hany : ((G.map (sg σ) ++ [sg σ t]).any fun a => decide (20 < a.enc.length)) = true
    · rw [if_pos hany] at hk; omega
    · rw [if_neg hany]
      refine ⟨h, G, t, σ, rfl, rfl, hG, ht, rfl, h6, hσ, fun a ha => ?_, rfl⟩
      have : sg σ a ∈ G.map (sg σ) ++ [sg σ t] := by
        rcases List.mem_append.1 ha with h | h
        · exact List.mem_append.2 (.inl (List.mem_map.2 ⟨a, h, rfl⟩))
        · rw [List.mem_singleton.1 h]; simp
      refine Nat.le_of_not_lt fun hl => hany ?_
      exact List.any_eq_true.2 ⟨_, this, decide_eq_true hl⟩
  · exact ⟨_, _, breaks_err xs c ims h, fun hk => absurd hk h⟩
/-- what a derivation is -/
def DerIs (xs : List (List Nd)) (c : List Nd) (d : Bool) : Prop := ∃ (G : List Fm) (t : Fm), xs = G.map Fm.enc ∧ c = t.enc ∧ d = sqB G t
theorem derivFacts (xs : List (List Nd)) (c : List Nd) : ∃ d k, BothRule 19 18 xs c d k ∧ (k = 0 → DerIs xs c d) := by
  by_cases h : ruleErr xs c = 0
  · obtain ⟨G, t, rfl, rfl, hG, ht⟩ := rule_trees h
    by_cases hb : tot (G.map Fm.enc ++ [t.enc]) ≤ 20
    · exact ⟨_, _, derivable_ok G t hG ht h hb, fun _ => ⟨G, t, rfl, rfl, rfl⟩⟩
    · exact ⟨_, _, derivable_big _ _ h (by omega), fun hk => by omega⟩
  · exact ⟨_, _, derivable_err xs c h, fun hk => absurd hk h⟩
/-- what is derivable is not broken -/
theorem brk_not_der {xs : List (List Nd)} {c : List Nd} {ims : List (List Nd)} {b d : Bool} (hb : BrkIs xs c ims b) (hd : DerIs xs c d) : (b && d) = false := by
  obtain ⟨_, G, t, σ, rfl, rfl, _, _, rfl, h6, hσ, _, rfl⟩ := hb
  obtain ⟨G', t', e1, e2, rfl⟩ := hd
  obtain rfl := enc_list_inj e1
  obtain rfl := enc_inj e2
  cases hs : sqB G t with
  | false => simp
  | true =>
    rw [Bool.and_true]
    refine brk_false fun h => ?_
    have h1 : Sq (G.map (sg σ)) (sg σ t) := sq_subF _ (sqB_iff.1 hs)
    intro M w hw
    exact h1 M w fun a ha => h a ha M w (by simp)
/-- the image of a rule that is or is not broken -/
theorem brk_image {xs : List (List Nd)} {c : List Nd} {ims : List (List Nd)} {b : Bool} (hb : BrkIs xs c ims b) :
    ∃ (H : List Fm) (u : Fm), irE xs c ims = 0 ∧ irP xs c ims = H.map Fm.enc ∧ irC xs c ims = u.enc ∧ OkL H ∧ OkF u ∧ (∀ a ∈ H, a.enc.length ≤ 20) ∧ u.enc.length ≤ 20 ∧ H.length = xs.length ∧ H.length ≤ 6 ∧ b = brk H u := by
  obtain ⟨h0, G, t, σ, rfl, rfl, hG, ht, rfl, h6, hσ, hl, rfl⟩ := hb
  have hGe : (G.map Fm.enc).map (sub (σ.map Fm.enc)) = (G.map (sg σ)).map Fm.enc := by
    rw [List.map_map, List.map_map]
    exact List.map_congr_left fun a ha => sub_sg σ h6 a (hG a ha)
  have hbig : bigL ((G.map Fm.enc ++ [t.enc]).map (sub (σ.map Fm.enc))) = false := by
    rw [List.map_append, hGe, List.map_singleton, sub_sg σ h6 t ht]
    unfold bigL
    rw [List.any_eq_false]
    intro x hx
    have : ∃ a ∈ G ++ [t], x = (sg σ a).enc := by
      rcases List.mem_append.1 hx with h | h
      · obtain ⟨y, hy, rfl⟩ := List.mem_map.1 h
        obtain ⟨a, ha, rfl⟩ := List.mem_map.1 hy
        exact ⟨a, List.mem_append.2 (.inl ha), rfl⟩
      · exact ⟨t, by simp, List.mem_singleton.1 h⟩
    obtain ⟨a, ha, rfl⟩ := this
    have := hl a ha
    simp; omega
  obtain ⟨e1, e2, e3⟩ := irE_ok h0 hbig
  obtain ⟨h1, _, _⟩ := imgErr_zero h0
  refine ⟨G.map (sg σ), sg σ t, e1, e2.trans hGe, e3.trans (sub_sg σ h6 t ht), fun x hx => ?_, sg_ok hσ t ht, fun x hx => ?_, hl t (by simp), by simp, ?_, rfl⟩
  · obtain ⟨a, ha, rfl⟩ := List.mem_map.1 hx; exact sg_ok hσ a (hG a ha)
  · obtain ⟨a, ha, rfl⟩ := List.mem_map.1 hx; exact hl a (by simp [ha])
  · have := (ruleErr_zero h1).1; simpa using this
--
set_option maxRecDepth 20000 in
set_option maxHeartbeats 1000000 in
theorem isIntTheorem_any (c : Fm) (hc : OkF c) (hl : c.enc.length ≤ 20) (v : Value) (w : World) (hv : Nds w v c.enc) :
    Calls Tryz.prog 21 #[v] w fun e w' => e = .returned (.tuple #[.bool (sqB [] c), .int .i64 0]) ∧ Keeps w w' := by
  obtain ⟨p, n, cap, rfl⟩ := hv.shape
  have hwt := wt_small hl
  have he : plainErr c.enc = 0 := fm_err hc (by omega)
  have h1 := smallFormulasCode_one c.enc (by omega) _ _ (NdsL.lit1 hv)
  rw [show smCode c.enc = 0 by unfold smCode; rw [if_pos he, if_neg (by omega)]] at h1
  have H1 := hid h1
  have k1 := (Keeps.refl w).alloc (.cells #[.slice p n cap] 24)
  have HT := hid (fun w2 (k : Keeps w w2) => text_any c hc.1 (by omega) _ w2 (hv.keeps k))
  have HP := hid (fun s (hs : bts s = c.body) w2 => provable_any [] c okL_nil hc (by simp only [wts]; omega) s (.slice none 0 0) w2 (Left.nil w2) hs)
  clear hv h1 he
  go_enter Tryz.func21, Tryz.ntmps21
  go_wp2_with fail
  refine H1.out.mono ?_; rintro e w2 ⟨rfl, k2⟩
  go_wp2_with fail
  refine (HT.out w2 (k1.trans k2)).mono ?_; rintro e w3 ⟨s, rfl, hs, k3⟩
  go_wp2_with fail
  refine (HP.out s hs w3).mono ?_; rintro e w4 ⟨rfl, k4⟩
  go_wp2_with fail
  go_ret2
  exact ⟨rfl, ((k1.trans k2).trans k3).trans k4⟩
end Go.Proofs.YtpbbfoliabgkpaaGreat
/- Draws of plain formulas. -/
namespace Go.Proofs.YtpbbfoliabgkpaaGreat
open Go.RowKit
theorem pair_treeF (r : Nat) {t u : Fm} (ht : OkF t) (hu : OkF u) (h : r < 3) : ∃ z : Fm, (⟨2 + r, 0⟩ : Nd) :: (t.enc ++ u.enc) = z.enc ∧ z.enc.length = t.enc.length + u.enc.length + 1 ∧ OkF z := by
  have : r = 0 ∨ r = 1 ∨ r = 2 := by omega
  rcases this with rfl | rfl | rfl
  · exact ⟨.and t u, rfl, by simp [Fm.enc], ⟨ht.1, hu.1⟩, by simp [Fm.plain, ht.2, hu.2]⟩
  · exact ⟨.or t u, rfl, by simp [Fm.enc], ⟨ht.1, hu.1⟩, by simp [Fm.plain, ht.2, hu.2]⟩
  · exact ⟨.imp t u, rfl, by simp [Fm.enc], ⟨ht.1, hu.1⟩, by simp [Fm.plain, ht.2, hu.2]⟩
/-- a drawn plain formula -/
def DrawF (B n : Nat) (w : World) (e : Ending) (w' : World) : Prop := ∃ v, ∃ t : Fm, e = .returned v ∧ OwnN w' w.heap.size v t.enc ∧ t.enc.length ≤ max n 1 ∧ OkF t ∧ Dr B w w'
--
set_option maxRecDepth 20000 in
set_option maxHeartbeats 4000000 in
theorem l02DrawF_any (B vr : Nat) (hvr : vr ≤ 6) : ∀ n : Nat, n ≤ 1000 → ∀ w, Src w B → Calls Tryz.prog 105 #[.pointer (some ⟨B, 0, none⟩), .int .i64 n, .int .i64 vr, .bool false] w (DrawF B n w) := by
  intro n
  induction n using Nat.strongRecOn with
  | ind n ih =>
  intro hn w hs
  have IH := hid (fun k hk (hk2 : k ≤ 1000) w2 hs2 => ih k hk hk2 w2 hs2); clear ih
  by_cases h2 : n ≤ 2
  · have h2' : (n : Int) ≤ 2 := by omega
    go_enter Tryz.func105, Tryz.ntmps105
    go_wp2_with fail
    refine (l01Next_any 8 B _ hs (by omega)).mono ?_; rintro e w1 ⟨r1, rfl, hr1, d1⟩
    have D1 : Dr B w w1 := d1
    by_cases hz1 : r1 = 0
    · subst hz1
      go_wp2_with fail
      refine (l02False_any _).mono ?_; rintro e w9 ⟨v9, rfl, hv9, k9⟩
      go_wp2_with fail
      go_ret
      exact ⟨_, .fls, rfl, hv9.mono D1.size, by simp [Fm.enc]; omega, okF_fls, D1.keeps k9⟩
    · have hz' : ((r1 : Nat) : Int) ≠ 0 := by omega
      go_wp2_with fail
      refine (l01Next_any (vr : Int) B _ D1.2 (by omega)).mono ?_; rintro e w8 ⟨r8, rfl, hr8, d8⟩
      have D8 := D1.trans d8
      go_wp2_with fail
      refine (l02Var_any r8 _).mono ?_; rintro e w9 ⟨v9, rfl, hv9, k9⟩
      go_wp2_with fail
      go_ret
      exact ⟨_, .var r8, rfl, hv9.mono D8.size, by simp [Fm.enc]; omega, okF_var (by omega), D8.keeps k9⟩
  · have h2' : ¬ (n : Int) ≤ 2 := by omega
    have hn3 : 2 < n := by omega
    go_enter Tryz.func105, Tryz.ntmps105
    go_wp2_with fail
    refine (l01Next_any 9 B _ hs (by omega)).mono ?_; rintro e w1 ⟨r1, rfl, hr1, d1⟩
    by_cases hz1 : r1 = 0
    · subst hz1
      go_wp2_with fail
      refine (l01Next_any 8 B _ d1.2 (by omega)).mono ?_; rintro e w2 ⟨r2, rfl, hr2, d2⟩
      have D2 : Dr B w w2 := (d1.trans d2)
      by_cases hz2 : r2 = 0
      · subst hz2
        go_wp2_with fail
        refine (l02False_any _).mono ?_; rintro e w9 ⟨v9, rfl, hv9, k9⟩
        go_wp2_with fail
        go_ret
        exact ⟨_, .fls, rfl, hv9.mono D2.size, by simp [Fm.enc]; omega, okF_fls, D2.keeps k9⟩
      · have hz' : ((r2 : Nat) : Int) ≠ 0 := by omega
        go_wp2_with fail
        refine (l01Next_any (vr : Int) B _ D2.2 (by omega)).mono ?_; rintro e w8 ⟨r8, rfl, hr8, d8⟩
        have D8 := D2.trans d8
        go_wp2_with fail
        refine (l02Var_any r8 _).mono ?_; rintro e w9 ⟨v9, rfl, hv9, k9⟩
        go_wp2_with fail
        go_ret
        exact ⟨_, .var r8, rfl, hv9.mono D8.size, by simp [Fm.enc]; omega, okF_var (by omega), D8.keeps k9⟩
    · have hz1' : ((r1 : Nat) : Int) ≠ 0 := by omega
      go_wp2_with fail
      refine (l01Next_any 6 B _ d1.2 (by omega)).mono ?_; rintro e w3 ⟨r3, rfl, hr3, d3⟩
      have D3 := d1.trans d3
      by_cases hz3 : r3 = 0
      · subst hz3
        have IH2 := hid (IH.out (n - 2) (by omega) (by omega) w3 D3.2)
        have hc2 : ((n - 2 : Nat) : Int) = (n : Int) - 2 := by omega
        rw [hc2] at IH2
        go_wp2_with fail
        refine IH2.out.mono ?_; rintro e w4 ⟨v4, t4, rfl, hv4, hl4, ok4, d4⟩
        have D4 := D3.trans d4
        obtain ⟨p4, n4, q4, rfl⟩ := hv4.own_shape
        have HNt := hid (l02Not_any t4 _ w4 (hv4.nds (by omega)) (by omega))
        clear hv4
        go_wp2_with fail
        refine HNt.out.mono ?_; rintro e w5 ⟨v5, rfl, hv5, k5⟩
        go_wp2_with fail
        go_ret
        exact ⟨_, Fm.not t4, rfl, hv5.mono D4.size, by simp [Fm.not, Fm.enc]; omega, ok4.not, D4.keeps k5⟩
      · have hz' : ((r3 : Nat) : Int) ≠ 0 := by omega
        go_wp2_with fail
        refine (l01Next_any ((n : Int) - 2) B _ D3.2 (by omega)).mono ?_; rintro e w4 ⟨r4, rfl, hr4, d4⟩
        have D4 := D3.trans d4
        have hr4' : r4 + 2 < n := by omega
        have IH5 := hid (IH.out (1 + r4) (by omega) (by omega) w4 D4.2)
        have hc5 : ((1 + r4 : Nat) : Int) = 1 + (r4 : Int) := by omega
        rw [hc5] at IH5
        go_wp2_with fail
        refine IH5.out.mono ?_; rintro e w5 ⟨v5, t5, rfl, hv5, hl5, ok5, d5⟩
        have D5 := D4.trans d5
        have hB5 : B < w4.heap.size := D4.2.lt
        obtain ⟨p5, n5, q5, rfl⟩ := hv5.own_shape
        go_wp2_with fail
        refine (l01Next_any 3 B _ D5.2 (by omega)).mono ?_; rintro e w6 ⟨r6, rfl, hr6, d6⟩
        have D6 := D5.trans d6
        have hv6 := hv5.dr d6 hB5
        have IH7 := hid (IH.out (n - 1 - (1 + r4)) (by omega) (by omega) w6 D6.2)
        have hc7 : ((n - 1 - (1 + r4) : Nat) : Int) = (n : Int) - 1 - (1 + (r4 : Int)) := by omega
        rw [hc7] at IH7
        clear hv5
        go_wp2_with fail
        refine IH7.out.mono ?_; rintro e w7 ⟨v7, t7, rfl, hv7, hl7, ok7, d7⟩
        have D7 := D6.trans d7
        have hv8 := hv6.dr d7 hB5
        obtain ⟨p7, n7, q7, rfl⟩ := hv7.own_shape
        have HPr := hid (l02Pair_any (2 + (r6 : Int)) _ _ _ _ w7 (hv8.nds (by omega)) (hv7.nds (by omega)) (by omega))
        obtain ⟨z, hz, hzl, okz⟩ := pair_treeF r6 ok5 ok7 (by omega)
        rw [hz] at HPr
        clear hv6 hv7 hv8 hz
        go_wp2_with fail
        refine HPr.out.mono ?_; rintro e w8 ⟨v8, rfl, hv9, k9⟩
        go_wp2_with fail
        go_ret
        exact ⟨_, z, rfl, hv9.mono D7.size, by omega, okz, D7.keeps k9⟩
end Go.Proofs.YtpbbfoliabgkpaaGreat
/- Draws of substitutions. (printed by mksome.py) -/
namespace Go.Proofs.YtpbbfoliabgkpaaGreat
open Go.RowKit
/-- what holds while a substitution is drawn -/
def SomeRel (w : World) (B : Nat) (o i' : Value) (wr : World) : Prop := ∃ k : Nat, k ≤ 3 ∧ i' = .int .i64 k ∧ ∃ l : List (List Nd), l.length = 6 ∧ (∀ x ∈ l, x.length ≤ 40) ∧ OwnL wr w.heap.size o l ∧ Dr B w wr
theorem set_len40 {l : List (List Nd)} (h : ∀ x ∈ l, x.length ≤ 40) {k : Nat} {y : List Nd} (hy : y.length ≤ 40) : ∀ x ∈ l.set k y, x.length ≤ 40 := fun x hx => (List.mem_or_eq_of_mem_set hx).elim (h x) (fun e => e ▸ hy)
theorem idL_40 : ∀ x ∈ idL 6, x.length ≤ 40 := by decide
theorem tot_240 {l : List (List Nd)} (h6 : l.length = 6) (h : ∀ x ∈ l, x.length ≤ 40) : tot l ≤ 240 := by
  have := tot_bound l 40 h
  omega
theorem tot_drop (l : List (List Nd)) : tot (l.drop 1) ≤ tot l := by cases l <;> simp [tot]
--
set_option maxRecDepth 20000 in
set_option maxHeartbeats 4000000 in
theorem l31Some_any (B : Nat) (w : World) (hs : Src w B) : Calls Tryz.prog 173 #[.pointer (some ⟨B, 0, none⟩)] w (DrawNL B 6 240 w) := by
  have hB := hs.lt
  have HSf := hid (l03Self_any w)
  go_enter Tryz.func173, Tryz.ntmps173
  go_wp2_with fail
  refine HSf.out.mono ?_; rintro e w1 ⟨v1, rfl, hown, k1⟩
  obtain ⟨g, q, rfl, hg, hg2⟩ := hown.shape (by rw [idL_len]; omega)
  rw [idL_len] at hown ⊢
  have hq : 6 ≤ q := by obtain ⟨_, _, e, h1, _⟩ := hown.len1; cases e; rw [idL_len] at h1; exact h1
  have hqm : q ≤ maxLen := by obtain ⟨_, _, e, _, h1⟩ := hown.len1; cases e; exact h1
  have D1 := Dr.of hs k1
  go_wp2_with fail
  go_loopw [4] (fun i' wr => SomeRel w B (.slice (some ⟨g, 0, none⟩) 6 q) i' wr) (fun i _ => 3 - (intOf i).toNat)
  case atStart => exact ⟨0, by omega, rfl, idL 6, idL_len 6, idL_40, hown, D1⟩
  case round =>
    obtain ⟨k, hk, rfl, l, h6, h40, hl, D⟩ := hrel
    clear hown
    by_cases hlt : k < 3
    · have hlt' : (k : Int) < 3 := by omega
      have hk6 : (k : Int) < 6 := by omega
      go_wp2_with fail
      refine (l01Next_any 2 B wr D.2 (by omega)).mono ?_; rintro e w2 ⟨r2, rfl, hr2, d2⟩
      have D2 := D.trans d2
      by_cases hz2 : r2 = 0
      · subst hz2
        go_wp2_with fail
        refine (l01Next_any 3 B w2 D2.2 (by omega)).mono ?_; rintro e w3 ⟨r3, rfl, hr3, d3⟩
        have D3 := D2.trans d3
        have hr3' : r3 < 3 := by omega
        have HD := hid (l02Draw_any B 3 (by omega) false (1 + r3) (by omega) w3 D3.2)
        have hc3 : ((1 + r3 : Nat) : Int) = 1 + (r3 : Int) := by omega
        rw [hc3] at HD
        go_wp2_with fail
        refine HD.out.mono ?_; rintro e w4 ⟨v4, t4, rfl, hv4, hl4, d4⟩
        have D4 := D3.trans d4
        obtain ⟨p4, n4, q4, rfl⟩ := hv4.own_shape
        have t4' := ((d2.trans d3).trans d4).1
        obtain ⟨g5, cap5, c5, ev5, hBg5, hgl5, hcell5, hfz5, hst5, hgr5⟩ := OwnL.storeT hl t4' hB (hv4.mono ((d2.trans d3).size)) D.size k (by omega)
        rw [h6] at ev5
        cases ev5
        have D5 := D4.grown hgr5 (fun i e => by cases e; exact ⟨by omega, hBg5⟩)
        have h40' := set_len40 h40 (k := k) (y := t4.enc) (by omega)
        have hl6' : (l.set k t4.enc).length = 6 := by simp [h6]
        clear hl hv4
        go_wp2_with fail
        refine (l01Next_any 3 B _ D5.2 (by omega)).mono ?_; rintro e w6 ⟨r6, rfl, hr6, d6⟩
        have D6 := D5.trans d6
        have hl6 := hst5.dr d6 hB
        clear hst5
        by_cases hz6 : r6 = 0
        · subst hz6
          go_wp2_with fail
          refine (l02True_any w6).mono ?_; rintro e w7 ⟨v7, rfl, hv7, k7⟩
          obtain ⟨p7, n7, q7, rfl⟩ := hv7.own_shape
          have t7 : Touch w6 w7 (fun i => i = B) := Touch.of_keeps k7 _
          have D7 := D6.keeps k7
          obtain ⟨g7, cap7, c7, ev7, hBg7, hgl7, hcell7, hfz7, hst7, hgr7⟩ := OwnL.storeT hl6 t7 hB hv7 D6.size k (by omega)
          rw [hl6'] at ev7
          cases ev7
          clear hl6 hv7
          go_wp2_with fail
          go_roundw
          case rel => exact ⟨k + 1, by omega, by go_num, _, by simp [h6], set_len40 h40' (by decide), hst7, D7.grown hgr7 (fun i e => by cases e; exact ⟨by omega, hBg7⟩)⟩
          case measure => simp [intOf]; omega
        · have hz6' : ((r6 : Nat) : Int) ≠ 0 := by omega
          go_wp2_with fail
          go_roundw
          case rel => exact ⟨k + 1, by omega, by go_num, _, by simp [h6], h40', hl6, D6⟩
          case measure => simp [intOf]; omega
      · have hz2' : ((r2 : Nat) : Int) ≠ 0 := by omega
        have hl2 := hl.dr d2 hB
        clear hl
        go_wp2_with fail
        refine (l01Next_any 3 B _ D2.2 (by omega)).mono ?_; rintro e w6 ⟨r6, rfl, hr6, d6⟩
        have D6 := D2.trans d6
        have hl6 := hl2.dr d6 hB
        clear hl2
        by_cases hz6 : r6 = 0
        · subst hz6
          go_wp2_with fail
          refine (l02True_any w6).mono ?_; rintro e w7 ⟨v7, rfl, hv7, k7⟩
          obtain ⟨p7, n7, q7, rfl⟩ := hv7.own_shape
          have t7 : Touch w6 w7 (fun i => i = B) := Touch.of_keeps k7 _
          have D7 := D6.keeps k7
          obtain ⟨g7, cap7, c7, ev7, hBg7, hgl7, hcell7, hfz7, hst7, hgr7⟩ := OwnL.storeT hl6 t7 hB hv7 D6.size k (by omega)
          rw [h6] at ev7
          cases ev7
          clear hl6 hv7
          go_wp2_with fail
          go_roundw
          case rel => exact ⟨k + 1, by omega, by go_num, _, by simp [h6], set_len40 h40 (by decide), hst7, D7.grown hgr7 (fun i e => by cases e; exact ⟨by omega, hBg7⟩)⟩
          case measure => simp [intOf]; omega
        · have hz6' : ((r6 : Nat) : Int) ≠ 0 := by omega
          go_wp2_with fail
          go_roundw
          case rel => exact ⟨k + 1, by omega, by go_num, _, by simp [h6], h40, hl6, D6⟩
          case measure => simp [intOf]; omega
    · obtain rfl : k = 3 := by omega
      go_wp2_with fail
      refine (l01Next_any 30 B wr D.2 (by omega)).mono ?_; rintro e w5 ⟨r5, rfl, hr5, d5⟩
      have D5 := D.trans d5
      have hl5 := hl.dr d5 hB
      have hr5' : r5 = 0 ∨ r5 = 1 ∨ 1 < r5 := by omega
      clear hr5 hl
      rcases hr5' with rfl | rfl | h2
      · go_wp2_with fail
        refine (l02Var_any 0 _).mono ?_; rintro e w6 ⟨v6, rfl, hv6, k6⟩
        go_wp2_with fail
        refine (l02Pre_any 5 _ _ w6 (hv6.nds (by simp [Fm.enc])) (by simp [Fm.enc])).mono ?_; rintro e w7 ⟨v7, rfl, hv7, k7⟩
        obtain ⟨p7, n7, q7, rfl⟩ := hv7.own_shape
        have D7 := (D5.keeps k6).keeps k7
        have hl7 := hl5.keeps k6
        obtain ⟨g7, cap7, c7, ev7, hBg7, hgl7, hcell7, hfz7, hst7, hgr7⟩ := OwnL.storeT hl7 (Touch.of_keeps k7 _) hB hv7 (D5.keeps k6).size 0 (by omega)
        rw [h6] at ev7
        cases ev7
        clear hl7 hl5 hv6 hv7
        go_wp2_with fail
        go_ret
        have h4 := set_len40 h40 (k := 0) (y := (⟨5, 0⟩ : Nd) :: (Fm.var 0).enc) (by simp [Fm.enc])
        have h6' : (l.set 0 ((⟨5, 0⟩ : Nd) :: (Fm.var 0).enc)).length = 6 := by simp [h6]
        have ht := tot_240 h6' h4
        exact ⟨_, _, rfl, ⟨_, _, hst7, fun w2 h => h.ndsL (by omega) (by omega)⟩, by omega, ht, D7.grown hgr7 (fun i e => by cases e; exact ⟨by omega, hBg7⟩)⟩
      · have ht := tot_240 h6 h40
        obtain ⟨qq, htl, hrun⟩ := tailL g 0 6 q 1 1 rfl (by omega) hq
        have hall : ∀ w2, OwnL w2 w.heap.size (.slice (some ⟨g, 0, none⟩) 6 q) l → NdsL w2 (.slice qq 5 (q - 1)) (l.drop 1) := by
          intro w2 ho
          have hN := ho.ndsL (by omega) (by omega)
          rw [← h6] at hN
          obtain ⟨vs, hat, hrs⟩ := hN.vals
          have hat' := htl _ vs hat (by rw [hrs.1]; exact h6)
          have hrs' := hrs.drop 1
          have hN' := ndsL_of (cap := q - 1) hat' hrs' (by simp [h6]; omega) (by omega) (by simp [h6])
          rw [show (l.drop 1).length = 5 by simp [h6]] at hN'
          exact hN'
        have HA := hid hall
        have hrun' := hrun
        clear htl hall
        go_wp2_with fail
        go_ret
        exact ⟨_, _, rfl, ⟨_, _, hl5, HA.out⟩, by simp [h6], by have := tot_drop l; omega, D5⟩
      · have g0 : ((r5 : Nat) : Int) ≠ 0 := by omega
        have g1 : ((r5 : Nat) : Int) ≠ 1 := by omega
        go_wp2_with fail
        go_ret
        have ht := tot_240 h6 h40
        exact ⟨_, _, rfl, ⟨_, _, hl5, fun w2 h => h.ndsL (by omega) (by omega)⟩, by omega, ht, D5⟩
end Go.Proofs.YtpbbfoliabgkpaaGreat
