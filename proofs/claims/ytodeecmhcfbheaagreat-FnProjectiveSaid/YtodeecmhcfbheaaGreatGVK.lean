/- Plain: the premises of the decider's rules: smaller, and as good as the sequent. -/
import Derived.Test.YtodeecmhcfbheaaGreatGVE
import Derived.Test.YtodeecmhcfbheaaGreatGU3
namespace Go.Proofs.YtodeecmhcfbheaaGreat
open Go.RowKit Fm
/-- premises that may stand for a sequent -/
def Prem (G : List Fm) (c : Fm) (gs : List (List Fm × Fm)) : Prop := (∀ g ∈ gs, OkL g.1 ∧ OkF g.2 ∧ wts g.1 + wt g.2 < wts G + wt c) ∧ (Sq G c ↔ ∀ g ∈ gs, Sq g.1 g.2)
/-- a formula of the left side that is not taken apart -/
def Left4 (G : List Fm) (t : Fm) : Prop := t = fls ∨ (∃ p, t = var p) ∨ (∃ p b, t = imp (var p) b ∧ var p ∉ G) ∨ (∃ x y b, t = imp (imp x y) b)
theorem OkF.and {x y : Fm} (h : OkF (and x y)) : OkF x ∧ OkF y := by obtain ⟨h1, h2⟩ := h; simp [plain] at h2; exact ⟨⟨h1.1, h2.1⟩, ⟨h1.2, h2.2⟩⟩
theorem OkF.or {x y : Fm} (h : OkF (or x y)) : OkF x ∧ OkF y := by obtain ⟨h1, h2⟩ := h; simp [plain] at h2; exact ⟨⟨h1.1, h2.1⟩, ⟨h1.2, h2.2⟩⟩
theorem OkF.imp {x y : Fm} (h : OkF (imp x y)) : OkF x ∧ OkF y := by obtain ⟨h1, h2⟩ := h; simp [plain] at h2; exact ⟨⟨h1.1, h2.1⟩, ⟨h1.2, h2.2⟩⟩
theorem OkF.mkImp {x y : Fm} (h : OkF x) (k : OkF y) : OkF (Fm.imp x y) := ⟨⟨h.1, k.1⟩, by simp [plain, h.2, k.2]⟩
theorem okL_one {x : Fm} (h : OkF x) : OkL [x] := fun a ha => by rw [List.mem_singleton.1 ha]; exact h
theorem okL_two {x y : Fm} (h : OkF x) (k : OkF y) : OkL [x, y] := fun a ha => by
  rcases List.mem_cons.1 ha with rfl | ha
  · exact h
  · rw [List.mem_singleton.1 ha]; exact k
theorem okL_nil : OkL [] := fun a ha => by cases ha
section
variable {G T R : List Fm} {c t : Fm} (hG : OkL G) (hc : OkF c) (hm : t ∈ G) (hT : OkL T) (hR : ∀ a, a ∈ R ↔ a ∈ T ∨ a ∈ G.filter (fun a => !decide (a = t))) (hw : wts R + wt t ≤ wts G + wts T)
include hm in
theorem mem_split : ∀ a, a ∈ G ↔ a = t ∨ a ∈ G.filter (fun a => !decide (a = t)) := (instead_mem (T := []) (R := G.filter fun a => !decide (a = t)) hm (fun a => by simp)).1
include hG hT hR in
theorem okL_instead : OkL R := fun a ha => ((hR a).1 ha).elim (hT a) fun h => hG a (mem_without.1 h).1
include hG hc hT hR hw in
theorem prem_one (hlt : wts T < wt t) (hs : Sq G c ↔ Sq R c) : Prem G c [(R, c)] := by
  refine ⟨fun g hg => ?_, by simpa using hs⟩
  rw [List.mem_singleton.1 hg]
  exact ⟨okL_instead hG hT hR, hc, by simp only; omega⟩
include hG hc hm hw in
theorem prem_fls {b : Fm} (ht : t = imp fls b) (hT0 : T = []) (hR : ∀ a, a ∈ R ↔ a ∈ T ∨ a ∈ G.filter (fun a => !decide (a = t))) : Prem G c [(R, c)] := by
  subst hT0
  have hlt : wts [] < wt t := by have := wt_ge t; simp only [wts]; omega
  refine prem_one hG hc okL_nil hR hw hlt ?_
  rw [sq_drop_imp (x := fls) (y := b) (H := G.filter fun a => !decide (a = t)) (by rw [← ht]; exact mem_split hm) (.inl rfl)]
  exact sq_same fun a => by rw [hR a]; simp
include hG hc hm hR hw in
theorem prem_var {p : Nat} {b : Fm} (ht : t = imp (var p) b) (hT1 : T = [b]) (hb : OkF b) (hp : var p ∈ G) : Prem G c [(R, c)] := by
  subst hT1
  have hlt : wts [b] < wt t := by rw [ht]; have := wt_imp (var p) b; simp only [wts]; omega
  refine prem_one hG hc (okL_one hb) hR hw hlt ?_
  exact sq_impL (x := var p) (b := b) (H := G.filter fun a => !decide (a = t)) (by rw [← ht]; exact mem_split hm) (mem_without.2 ⟨hp, by rw [ht]; intro h; cases h⟩) (fun a => by rw [hR a]; simp)
include hG hc hm hR hw in
theorem prem_and {x y : Fm} (ht : t = and x y) (hT1 : T = [x, y]) (hx : OkF x) (hy : OkF y) : Prem G c [(R, c)] := by
  subst hT1
  have hlt : wts [x, y] < wt t := by rw [ht]; have := wt_and x y; simp only [wts]; omega
  refine prem_one hG hc (okL_two hx hy) hR hw hlt ?_
  exact sq_andL (x := x) (y := y) (H := G.filter fun a => !decide (a = t)) (by rw [← ht]; exact mem_split hm) (fun a => by rw [hR a]; simp)
include hG hc hm hR hw in
theorem prem_andimp {x y b : Fm} (ht : t = imp (and x y) b) (hT1 : T = [imp x (imp y b)]) (hx : OkF x) (hy : OkF y) (hb : OkF b) : Prem G c [(R, c)] := by
  subst hT1
  have hlt : wts [imp x (imp y b)] < wt t := by rw [ht]; have := wt_andimp x y b; simp only [wts]; omega
  refine prem_one hG hc (okL_one (.mkImp hx (.mkImp hy hb))) hR hw hlt ?_
  exact sq_andimpL (x := x) (y := y) (b := b) (H := G.filter fun a => !decide (a = t)) (by rw [← ht]; exact mem_split hm) (fun a => by rw [hR a]; simp)
include hG hc hm hR hw in
theorem prem_orimp {x y b : Fm} (ht : t = imp (or x y) b) (hT1 : T = [imp x b, imp y b]) (hx : OkF x) (hy : OkF y) (hb : OkF b) : Prem G c [(R, c)] := by
  subst hT1
  have hlt : wts [imp x b, imp y b] < wt t := by rw [ht]; have := wt_orimp x y b; simp only [wts]; omega
  refine prem_one hG hc (okL_two (.mkImp hx hb) (.mkImp hy hb)) hR hw hlt ?_
  exact sq_orimpL (x := x) (y := y) (b := b) (H := G.filter fun a => !decide (a = t)) (by rw [← ht]; exact mem_split hm) (fun a => by rw [hR a]; simp)
end
theorem prem_or {G R R' : List Fm} {c t x y : Fm} (hG : OkL G) (hc : OkF c) (hm : t ∈ G) (ht : t = or x y) (hx : OkF x) (hy : OkF y)
    (hR : ∀ a, a ∈ R ↔ a ∈ [x] ∨ a ∈ G.filter (fun a => !decide (a = t))) (hw : wts R + wt t ≤ wts G + wts [x]) (hR' : ∀ a, a ∈ R' ↔ a ∈ [y] ∨ a ∈ G.filter (fun a => !decide (a = t))) (hw' : wts R' + wt t ≤ wts G + wts [y]) : Prem G c [(R, c), (R', c)] := by
  have h1 := wt_or x y
  rw [← ht] at h1
  simp only [wts] at hw hw'
  refine ⟨fun g hg => ?_, ?_⟩
  · rcases List.mem_cons.1 hg with rfl | hg
    · exact ⟨okL_instead hG (okL_one hx) hR, hc, by simp only; omega⟩
    · rw [List.mem_singleton.1 hg]
      exact ⟨okL_instead hG (okL_one hy) hR', hc, by simp only; omega⟩
  · rw [sq_orL (x := x) (y := y) (H := G.filter fun a => !decide (a = t)) (K := R) (K' := R') (by rw [← ht]; exact mem_split hm) (fun a => by rw [hR a]; simp) (fun a => by rw [hR' a]; simp)]
    simp
/-- the premises answer as the sequent -/
theorem Prem.all {G : List Fm} {c : Fm} {gs : List (List Fm × Fm)} (h : Prem G c gs) : (!(gs.any fun g => !sqB g.1 g.2)) = sqB G c := by
  rw [Bool.eq_iff_iff]
  simp only [Bool.not_eq_true', List.any_eq_false, Bool.not_eq_true', Bool.not_eq_false, sqB_iff]
  exact h.2.symm
end Go.Proofs.YtodeecmhcfbheaaGreat
