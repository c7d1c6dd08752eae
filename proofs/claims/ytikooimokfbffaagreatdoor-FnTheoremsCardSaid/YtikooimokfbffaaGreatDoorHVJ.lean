import Derived.Test.YtikooimokfbffaaGreatDoorHVH
import Derived.Test.YtikooimokfbffaaGreatDoorHU2
import Derived.Test.YtikooimokfbffaaGreatDoorHM3
import Derived.Deep.RegionHeld3
import Derived.Test.YtikooimokfbffaaGreatDoorHVG
import Derived.Lib.SliceRun
import Derived.Test.YtikooimokfbffaaGreatDoorHV9
/- Plain: the premises of the decider's rules: smaller, and as good as the sequent. -/
namespace Go.Proofs.YtikooimokfbffaaGreatDoor
open Go.RowKit Fm
def Prem (G : List Fm) (c : Fm) (gs : List (List Fm × Fm)) : Prop := (∀ g ∈ gs, OkL g.1 ∧ OkF g.2 ∧ wts g.1 + wt g.2 < wts G + wt c) ∧ (Sq G c ↔ ∀ g ∈ gs, Sq g.1 g.2)
def Left4 (G : List Fm) (t : Fm) : Prop := t = fls ∨ (∃ p, t = var p) ∨ (∃ p b, t = imp (var p) b ∧ var p ∉ G) ∨ (∃ x y b, t = imp (imp x y) b)
theorem OkF.and {x y : Fm} (h : OkF (and x y)) : OkF x ∧ OkF y := by obtain ⟨h1, h2⟩ := h; simp [plain] at h2; exact ⟨⟨h1.1, h2.1⟩, ⟨h1.2, h2.2⟩⟩
theorem OkF.or {x y : Fm} (h : OkF (or x y)) : OkF x ∧ OkF y := by obtain ⟨h1, h2⟩ := h; simp [plain] at h2; exact ⟨⟨h1.1, h2.1⟩, ⟨h1.2, h2.2⟩⟩
theorem OkF.imp {x y : Fm} (h : OkF (imp x y)) : OkF x ∧ OkF y := by obtain ⟨h1, h2⟩ := h; simp [plain] at h2; exact ⟨⟨h1.1, h2.1⟩, ⟨h1.2, h2.2⟩⟩
theorem OkF.mkImp {x y : Fm} (h : OkF x) (k : OkF y) : OkF (Fm.imp x y) := ⟨⟨h.1, k.1⟩, by simp [plain, h.2, k.2]⟩
theorem okL_one {x : Fm} (h : OkF x) : OkL [x] := fun a ha => by rw [List.mem_singleton.1 ha]; exact h
theorem okL_two {x y : Fm} (h : OkF x) (k : OkF y) : OkL [x, y] := fun a ha => by
 rcases List.mem_cons.1 ha with rfl | ha
 ·exact h
 ·rw [List.mem_singleton.1 ha]; exact k
theorem okL_nil : OkL [] := fun a ha => by cases ha
section
variable {G T R : List Fm} {c t : Fm} (hG : OkL G) (hc : OkF c) (hm : t ∈ G) (hT : OkL T) (hR : ∀ a, a ∈ R ↔ a ∈ T ∨ a ∈ G.filter (fun a => !decide (a = t))) (hw : wts R + wt t ≤ wts G + wts T)
include hm in
theorem mem_split : ∀ a, a ∈ G ↔ a = t ∨ a ∈ G.filter (fun a => !decide (a = t)) := (instead_mem (T := []) (R := G.filter fun a => !decide (a = t)) hm (fun a => by simp)).1
include hG hT hR in
theorem okL_instead : OkL R := fun a ha => ((hR a).1 ha).elim (hT a) fun h => hG a (mem_without.1 h).1
include hG hc hT hR hw in
theorem prem_one (hlt : wts T < wt t) (hs : Sq G c ↔ Sq R c) : Prem G c [(R, c)] := by
 refine ⟨fun g hg => ?_, by simpa using hs⟩
 rw [List.mem_singleton.1 hg]
 exact ⟨okL_instead hG hT hR, hc, by simp only; omega⟩
include hG hc hm hw in
theorem prem_fls {b : Fm} (ht : t = imp fls b) (hT0 : T = []) (hR : ∀ a, a ∈ R ↔ a ∈ T ∨ a ∈ G.filter (fun a => !decide (a = t))) : Prem G c [(R, c)] := by
 subst hT0
 have hlt : wts [] < wt t := by have := wt_ge t; simp only [wts]; omega
 refine prem_one hG hc okL_nil hR hw hlt ?_
 rw [sq_drop_imp (x := fls) (y := b) (H := G.filter fun a => !decide (a = t)) (by rw [← ht]; exact mem_split hm) (.inl rfl)]
 exact sq_same fun a => by rw [hR a]; simp
include hG hc hm hR hw in
theorem prem_var {p : Nat} {b : Fm} (ht : t = imp (var p) b) (hT1 : T = [b]) (hb : OkF b) (hp : var p ∈ G) : Prem G c [(R, c)] := by
 subst hT1
 have hlt : wts [b] < wt t := by rw [ht]; have := wt_imp (var p) b; simp only [wts]; omega
 refine prem_one hG hc (okL_one hb) hR hw hlt ?_
 exact sq_impL (x := var p) (b := b) (H := G.filter fun a => !decide (a = t)) (by rw [← ht]; exact mem_split hm) (mem_without.2 ⟨hp, by rw [ht]; intro h; cases h⟩) (fun a => by rw [hR a]; simp)
include hG hc hm hR hw in
theorem prem_and {x y : Fm} (ht : t = and x y) (hT1 : T = [x, y]) (hx : OkF x) (hy : OkF y) : Prem G c [(R, c)] := by
 subst hT1
 have hlt : wts [x, y] < wt t := by rw [ht]; have := wt_and x y; simp only [wts]; omega
 refine prem_one hG hc (okL_two hx hy) hR hw hlt ?_
 exact sq_andL (x := x) (y := y) (H := G.filter fun a => !decide (a = t)) (by rw [← ht]; exact mem_split hm) (fun a => by rw [hR a]; simp)
include hG hc hm hR hw in
theorem prem_andimp {x y b : Fm} (ht : t = imp (and x y) b) (hT1 : T = [imp x (imp y b)]) (hx : OkF x) (hy : OkF y) (hb : OkF b) : Prem G c [(R, c)] := by
 subst hT1
 have hlt : wts [imp x (imp y b)] < wt t := by rw [ht]; have := wt_andimp x y b; simp only [wts]; omega
 refine prem_one hG hc (okL_one (.mkImp hx (.mkImp hy hb))) hR hw hlt ?_
 exact sq_andimpL (x := x) (y := y) (b := b) (H := G.filter fun a => !decide (a = t)) (by rw [← ht]; exact mem_split hm) (fun a => by rw [hR a]; simp)
include hG hc hm hR hw in
theorem prem_orimp {x y b : Fm} (ht : t = imp (or x y) b) (hT1 : T = [imp x b, imp y b]) (hx : OkF x) (hy : OkF y) (hb : OkF b) : Prem G c [(R, c)] := by
 subst hT1
 have hlt : wts [imp x b, imp y b] < wt t := by rw [ht]; have := wt_orimp x y b; simp only [wts]; omega
 refine prem_one hG hc (okL_two (.mkImp hx hb) (.mkImp hy hb)) hR hw hlt ?_
 exact sq_orimpL (x := x) (y := y) (b := b) (H := G.filter fun a => !decide (a = t)) (by rw [← ht]; exact mem_split hm) (fun a => by rw [hR a]; simp)
end
theorem prem_or {G R R' : List Fm} {c t x y : Fm} (hG : OkL G) (hc : OkF c) (hm : t ∈ G) (ht : t = or x y) (hx : OkF x) (hy : OkF y)
  (hR : ∀ a, a ∈ R ↔ a ∈ [x] ∨ a ∈ G.filter (fun a => !decide (a = t))) (hw : wts R + wt t ≤ wts G + wts [x]) (hR' : ∀ a, a ∈ R' ↔ a ∈ [y] ∨ a ∈ G.filter (fun a => !decide (a = t))) (hw' : wts R' + wt t ≤ wts G + wts [y]) : Prem G c [(R, c), (R', c)] := by
 have h1 := wt_or x y
 rw [← ht] at h1
 simp only [wts] at hw hw'
 refine ⟨fun g hg => ?_, ?_⟩
 ·rcases List.mem_cons.1 hg with rfl | hg
  ·exact ⟨okL_instead hG (okL_one hx) hR, hc, by simp only; omega⟩
  ·rw [List.mem_singleton.1 hg]
   exact ⟨okL_instead hG (okL_one hy) hR', hc, by simp only; omega⟩
 ·rw [sq_orL (x := x) (y := y) (H := G.filter fun a => !decide (a = t)) (K := R) (K' := R') (by rw [← ht]; exact mem_split hm) (fun a => by rw [hR a]; simp) (fun a => by rw [hR' a]; simp)]
  simp
theorem Prem.all {G : List Fm} {c : Fm} {gs : List (List Fm × Fm)} (h : Prem G c gs) : (!(gs.any fun g => !sqB g.1 g.2)) = sqB G c := by
 rw [Bool.eq_iff_iff]
 simp only [Bool.not_eq_true', List.any_eq_false, Bool.not_eq_true', Bool.not_eq_false, sqB_iff]
 exact h.2.symm
end Go.Proofs.YtikooimokfbffaaGreatDoor
namespace Go.Proofs.YtikooimokfbffaaGreatDoor
open Go.RowKit
set_option maxRecDepth 20000 in
set_option maxHeartbeats 1000000 in
theorem arrow_two (x y : List Nd) (v : Value) (w : World) (hv : NdsL w v [x, y]) (hl : x.length + y.length ≤ 1000000000) : Calls Tryz.prog 299 #[v] w (RetN w (⟨4, 0⟩ :: (x ++ y))) := by
 have hv0 := hv
 obtain ⟨p, cap, rfl, hle, hmx, hlm, _⟩ := hv
 simp only [List.length_cons, List.length_nil] at *
 unfold maxLen at hmx
 obtain ⟨b, off, u1, rfl, hc1, h1⟩ := hv0.get 0 (by simp)
 obtain ⟨b', off', u2, e, hc2, h2⟩ := hv0.get 1 (by simp)
 cases e
 simp only [List.getElem_cons_zero, List.getElem_cons_succ] at h1 h2
 rw [Nat.add_zero] at hc1
 obtain ⟨p1, n1, q1, rfl⟩ := h1.shape
 obtain ⟨p2, n2, q2, rfl⟩ := h2.shape
 clear hv0
 have HJ := hid (join_any 4 x y _ _ w h1 h2 (by omega))
 clear h1 h2
 go_enter Tryz.func299, Tryz.ntmps299
 go_wp2
 go_loopw [3, 4] (fun o i' wr => (i' = .int .i64 0 ∧ o = .slice p2 n2 q2 ∧ wr = w) ∨ (i' = .int .i64 (-1) ∧ OwnN wr w.heap.size o (⟨4, 0⟩ :: (x ++ y)) ∧ Keeps w wr)) (fun _ i _ => (intOf i + 1).toNat)
 case atStart => exact .inl ⟨rfl, rfl, rfl⟩
 case round =>
  rcases hrel with ⟨rfl, rfl, rfl⟩ | ⟨rfl, ho, kw⟩
  ·go_wp2_with fail
   refine HJ.out.mono ?_; rintro e w2 ⟨v2, rfl, hv2, k2⟩
   go_wp2_with fail
   go_roundw
   case rel => exact .inr ⟨rfl, hv2, k2⟩
   case measure => simp [intOf]
  ·go_wp2
   go_ret
   exact ⟨_, rfl, ho, kw⟩
end Go.Proofs.YtikooimokfbffaaGreatDoor
namespace Go.Proofs.YtikooimokfbffaaGreatDoor
open Go.RowKit
set_option maxRecDepth 20000 in
set_option maxHeartbeats 1000000 in
theorem arrow_three (x y z : List Nd) (v : Value) (w : World) (hv : NdsL w v [x, y, z]) (hl : x.length + y.length + z.length ≤ 1000000000) : Calls Tryz.prog 299 #[v] w (RetN w (⟨4, 0⟩ :: (x ++ (⟨4, 0⟩ :: (y ++ z))))) := by
 have hv0 := hv
 obtain ⟨p, cap, rfl, hle, hmx, hlm, _⟩ := hv
 simp only [List.length_cons, List.length_nil] at *
 unfold maxLen at hmx
 obtain ⟨b, off, u1, rfl, hc1, h1⟩ := hv0.get 0 (by simp)
 obtain ⟨b', off', u2, e, hc2, h2⟩ := hv0.get 1 (by simp)
 cases e
 obtain ⟨b', off', u3, e, hc3, h3⟩ := hv0.get 2 (by simp)
 cases e
 simp only [List.getElem_cons_zero, List.getElem_cons_succ] at h1 h2 h3
 rw [Nat.add_zero] at hc1
 obtain ⟨p1, n1, q1, rfl⟩ := h1.shape
 obtain ⟨p2, n2, q2, rfl⟩ := h2.shape
 obtain ⟨p3, n3, q3, rfl⟩ := h3.shape
 clear hv0
 have HJ := hid (join_any 4 y z _ _ w h2 h3 (by omega))
 have HJ2 := hid (fun u2 w2 (k : Keeps w w2) (h : Nds w2 u2 (⟨4, 0⟩ :: (y ++ z))) => join_any 4 x (⟨4, 0⟩ :: (y ++ z)) _ u2 w2 (h1.keeps k) h (by simp only [List.length_cons, List.length_append]; omega))
 have hlen : (⟨4, 0⟩ :: (y ++ z) : List Nd).length ≤ 2147483648 := by simp only [List.length_cons, List.length_append]; omega
 clear h1 h2 h3
 go_enter Tryz.func299, Tryz.ntmps299
 go_wp2
 go_loopw [3, 4] (fun o i' wr => (i' = .int .i64 1 ∧ o = .slice p3 n3 q3 ∧ wr = w) ∨ (i' = .int .i64 0 ∧ OwnN wr w.heap.size o (⟨4, 0⟩ :: (y ++ z)) ∧ Keeps w wr) ∨ (i' = .int .i64 (-1) ∧ OwnN wr w.heap.size o (⟨4, 0⟩ :: (x ++ (⟨4, 0⟩ :: (y ++ z)))) ∧ Keeps w wr)) (fun _ i _ => (intOf i + 1).toNat)
 case atStart => exact .inl ⟨rfl, rfl, rfl⟩
 case round =>
  rcases hrel with ⟨rfl, rfl, rfl⟩ | ⟨rfl, ho, kw⟩ | ⟨rfl, ho, kw⟩
  ·go_wp2_with fail
   refine HJ.out.mono ?_; rintro e w2 ⟨v2, rfl, hv2, k2⟩
   go_wp2_with fail
   go_roundw
   case rel => exact .inr (.inl ⟨rfl, hv2, k2⟩)
   case measure => simp [intOf]
  ·have hn := ho.nds hlen
   obtain ⟨p4, n4, q4, rfl⟩ := hn.shape
   replace hc1 := kw.cell hc1
   have HN := hid hn; clear hn
   go_wp2_with fail
   refine (HJ2.out _ _ kw HN.out).mono ?_; rintro e w2 ⟨v2, rfl, hv2, k2⟩
   go_wp2_with fail
   go_roundw
   case rel => exact .inr (.inr ⟨rfl, hv2.mono kw.size, kw.trans k2⟩)
   case measure => simp [intOf]
  ·go_wp2
   go_ret
   exact ⟨_, rfl, ho, kw⟩
theorem Nds.undrew {w : World} {v : Value} {a : List Nd} (h : Nds w.drew v a) : Nds w v a := h
theorem cells_alloc {w : World} {a b : Addr} {u v : Value} (o : Obj) (h : w.cell? a = some u ∧ w.cell? b = some v) : (w.alloc o).cell? a = some u ∧ (w.alloc o).cell? b = some v := ⟨Lib.cell?_alloc_some o h.1, Lib.cell?_alloc_some o h.2⟩
theorem cells_keeps {w w' : World} {a b : Addr} {u v : Value} (k : Keeps w w') (h : w.cell? a = some u ∧ w.cell? b = some v) : w'.cell? a = some u ∧ w'.cell? b = some v := ⟨k.cell h.1, k.cell h.2⟩
theorem cells4_alloc {w : World} {a b c d : Addr} {u v x y : Value} (o : Obj) (h : (w.cell? a = some u ∧ w.cell? b = some v) ∧ (w.cell? c = some x ∧ w.cell? d = some y)) : ((w.alloc o).cell? a = some u ∧ (w.alloc o).cell? b = some v) ∧ ((w.alloc o).cell? c = some x ∧ (w.alloc o).cell? d = some y) := ⟨cells_alloc o h.1, cells_alloc o h.2⟩
theorem cells4_keeps {w w' : World} {a b c d : Addr} {u v x y : Value} (k : Keeps w w') (h : (w.cell? a = some u ∧ w.cell? b = some v) ∧ (w.cell? c = some x ∧ w.cell? d = some y)) : (w'.cell? a = some u ∧ w'.cell? b = some v) ∧ (w'.cell? c = some x ∧ w'.cell? d = some y) := ⟨cells_keeps k h.1, cells_keeps k h.2⟩
end Go.Proofs.YtikooimokfbffaaGreatDoor
namespace Go.Proofs.YtikooimokfbffaaGreatDoor
open Go.RowKit
set_option maxRecDepth 20000 in
set_option maxHeartbeats 2000000 in
theorem implied_and (G : List Fm) (c a1 a2 b t : Fm) (x s : ByteArray) (ht : t = Fm.imp (Fm.and a1 a2) b) (hx : bts x = t.body) (hs : bts s = c.body) (hm : t ∈ G) (hG : OkL G) (hc : OkF c) (hl : wts G + wt c ≤ 50000000)
  (p : Option Addr) (n q : Nat) (va vb : Value) (w : World) (hv : Left w (.slice p n q) G) (hva : Nds w va (Fm.and a1 a2).enc) (hvb : Nds w vb b.enc) :
  Calls Tryz.prog 295 #[.agg #[.slice p n q, .string s], .string x, va, vb] w fun e w' => ∃ u ok, e = .returned (.tuple #[u, .bool ok]) ∧ Keeps w w' ∧ (ok = true → ∃ gs, GoalL w' u gs ∧ Prem G c gs) ∧ (ok = false → Left4 G t) := by
 have hOk := hG t hm
 have hwt := wts_mem hm
 obtain ⟨hoa, hob⟩ := OkF.imp (ht ▸ hOk)
 have hab := wt_imp (Fm.and a1 a2) b
 rw [← ht] at hab
 have hla := len_le_wt (Fm.and a1 a2)
 have hlb := len_le_wt b
 obtain ⟨b0, off, na, ca, rfl, h0, h1, h2, h3, hk, _⟩ := hva.root
 obtain ⟨pb, nb, cb, rfl⟩ := hvb.shape
 have kA := (Keeps.refl w).alloc (.cells #[.slice p n q, .string s] 157)
 have kD := kA.drew
 have pa : (w.alloc (.cells #[.slice p n q, .string s] 157)).cell? ⟨w.heap.size, 0, none⟩ = some (.slice p n q) := by simp
 have pb' : (w.alloc (.cells #[.slice p n q, .string s] 157)).cell? ⟨w.heap.size, 1, none⟩ = some (.string s) := by simp
 have qa : (w.alloc (.cells #[.slice p n q, .string s] 157)).drew.cell? ⟨w.heap.size, 0, none⟩ = some (.slice p n q) := by show (w.alloc _).cell? _ = _; simp
 have qb : (w.alloc (.cells #[.slice p n q, .string s] 157)).drew.cell? ⟨w.heap.size, 1, none⟩ = some (.string s) := by show (w.alloc _).cell? _ = _; simp
 have HI := hid (fun (T : List Fm) (u : Value) (w2 : World) (k : Keeps w w2) (hu : Left w2 u T) (hT : OkL T) (hl2 : wts T ≤ 50000000) => instead_any G T t x hx hm p n q s u w2 (hv.keeps k) hu hG hT (by omega))
 have HTb := hid (fun w2 (k : Keeps w w2) => text_any b hob.1 (by omega) _ w2 (hvb.keeps k))
 have HTa := hid (fun w2 (k : Keeps w w2) => text_any (Fm.and a1 a2) hoa.1 (by omega) _ w2 (hva.keeps k))
 have HV := hid hv; have HVA := hid hva; have HVB := hid hvb
 clear hv hx hla hlb hva hvb
 have q0 := And.intro qa qb
 obtain ⟨ho1, ho2⟩ := OkF.and hoa
 have hle := len_le_wt (Fm.and a1 a2)
 have hle2 := len_le_wt b
 simp only [Fm.enc, List.length_cons, List.length_append] at hle
 have HF := hid (first_any _ _ a1 a2.enc _ _ (HVA.out.keeps kD) rfl)
 have HS := hid (second_any _ _ a1 a2 _ _ (HVA.out.keeps kD) rfl)
 have HBd := hid (HVB.out.keeps kD)
 have hbig : (Fm.imp a1 (Fm.imp a2 b)).enc.length ≤ 100000000 := by simp only [Fm.enc, List.length_cons, List.length_append]; omega
 have hwt2 : wts [Fm.imp a1 (Fm.imp a2 b)] ≤ 50000000 := by have := wt_andimp a1 a2 b; rw [← ht] at this; simp only [wts]; omega
 have hsz : a1.enc.length + a2.enc.length + b.enc.length ≤ 1000000000 := by omega
 replace hk := kA.cell (show w.cell? ⟨b0, off, none⟩ = some (.int .i64 2) from hk)
 have q1 := hid (fun B => cells_keeps ((Keeps.refl ((w.alloc (.cells #[.slice p n q, .string s] 157)).alloc B)).drew) (cells_alloc B (And.intro pa pb')))
 have HL := hid (fun v1 v2 (h1 : Nds (w.alloc (.cells #[.slice p n q, .string s] 157)).drew v1 a1.enc) (h2 : Nds (w.alloc (.cells #[.slice p n q, .string s] 157)).drew v2 a2.enc) =>
  (NdsL.lit3N (N := w.heap.size + 1) (w := w.alloc (.cells #[.slice p n q, .string s] 157)) (by simp) (Nds.undrew h1) (Nds.undrew h2) (HVB.out.keeps kA)).keeps (Keeps.refl _).drew)
 go_enter Tryz.func295, Tryz.ntmps295
 go_wp2_with fail
 go_region_held3 (fun w' => w'.cell? ⟨w.heap.size, 0, none⟩ = some (.slice p n q) ∧ w'.cell? ⟨w.heap.size, 1, none⟩ = some (.string s)) (first | exact q0 | exact q1.out _ | exact q2 | exact cells_alloc _ q2 | exact q3 | exact cells_alloc _ q3 | exact q4 | exact cells_alloc _ q4) (first
  | (go_at_call 167; refine HF.out.mono ?_; rintro e w' ⟨v1, rfl, hv1, rfl⟩; obtain ⟨p1, n1, c1, rfl⟩ := hv1.shape)
  | (go_at_call 168; refine HS.out.mono ?_; rintro e w' ⟨v2, rfl, hv2, rfl⟩; obtain ⟨p2, n2, c2, rfl⟩ := hv2.shape)
  | (go_at_call 299; refine (arrow_three a1.enc a2.enc b.enc _ _ (HL.out _ _ hv1 hv2) hsz).mono ?_; rintro e w2 ⟨v3, rfl, hv3, k2⟩; have q2 := cells_keeps k2 (q1.out _))
  | (go_at_call 39; refine (text_any (Fm.imp a1 (Fm.imp a2 b)) (OkF.mkImp ho1 (OkF.mkImp ho2 hob)).1 hbig _ _ (hv3.nds (Nat.le_trans hbig (by omega)))).mono ?_; rintro e w3 ⟨sb, rfl, hsb, k3⟩; have q3 := cells_keeps k3 q2)
  | (go_at_call 294; refine (HI.out [Fm.imp a1 (Fm.imp a2 b)] _ _ ((((kA.alloc _).drew.trans k2).trans k3).alloc _) (Left.lit1 w3 hsb) (okL_one (OkF.mkImp ho1 (OkF.mkImp ho2 hob))) hwt2).mono ?_; rintro e w4 ⟨p4, n4, c4, R, rfl, hR, hmem, hwR, k4⟩; have q4 := cells_keeps k4 (cells_alloc _ q3)))
 go_wp2
 go_ret2
 exact ⟨_, true, rfl, (((((kA.alloc _).drew.trans k2).trans k3).alloc _).trans k4).alloc _, fun _ => ⟨_, GoalL.lit1 hR hs, prem_andimp hG hc hm hmem hwR ht rfl ho1 ho2 hob⟩, fun h => by cases h⟩
end Go.Proofs.YtikooimokfbffaaGreatDoor
namespace Go.Proofs.YtikooimokfbffaaGreatDoor
open Go.RowKit
set_option maxRecDepth 20000 in
set_option maxHeartbeats 2000000 in
theorem implied_or (G : List Fm) (c a1 a2 b t : Fm) (x s : ByteArray) (ht : t = Fm.imp (Fm.or a1 a2) b) (hx : bts x = t.body) (hs : bts s = c.body) (hm : t ∈ G) (hG : OkL G) (hc : OkF c) (hl : wts G + wt c ≤ 50000000)
  (p : Option Addr) (n q : Nat) (va vb : Value) (w : World) (hv : Left w (.slice p n q) G) (hva : Nds w va (Fm.or a1 a2).enc) (hvb : Nds w vb b.enc) :
  Calls Tryz.prog 295 #[.agg #[.slice p n q, .string s], .string x, va, vb] w fun e w' => ∃ u ok, e = .returned (.tuple #[u, .bool ok]) ∧ Keeps w w' ∧ (ok = true → ∃ gs, GoalL w' u gs ∧ Prem G c gs) ∧ (ok = false → Left4 G t) := by
 have hOk := hG t hm
 have hwt := wts_mem hm
 obtain ⟨hoa, hob⟩ := OkF.imp (ht ▸ hOk)
 have hab := wt_imp (Fm.or a1 a2) b
 rw [← ht] at hab
 have hla := len_le_wt (Fm.or a1 a2)
 have hlb := len_le_wt b
 obtain ⟨b0, off, na, ca, rfl, h0, h1, h2, h3, hk, _⟩ := hva.root
 obtain ⟨pb, nb, cb, rfl⟩ := hvb.shape
 have kA := (Keeps.refl w).alloc (.cells #[.slice p n q, .string s] 157)
 have kD := kA.drew
 have pa : (w.alloc (.cells #[.slice p n q, .string s] 157)).cell? ⟨w.heap.size, 0, none⟩ = some (.slice p n q) := by simp
 have pb' : (w.alloc (.cells #[.slice p n q, .string s] 157)).cell? ⟨w.heap.size, 1, none⟩ = some (.string s) := by simp
 have qa : (w.alloc (.cells #[.slice p n q, .string s] 157)).drew.cell? ⟨w.heap.size, 0, none⟩ = some (.slice p n q) := by show (w.alloc _).cell? _ = _; simp
 have qb : (w.alloc (.cells #[.slice p n q, .string s] 157)).drew.cell? ⟨w.heap.size, 1, none⟩ = some (.string s) := by show (w.alloc _).cell? _ = _; simp
 have HI := hid (fun (T : List Fm) (u : Value) (w2 : World) (k : Keeps w w2) (hu : Left w2 u T) (hT : OkL T) (hl2 : wts T ≤ 50000000) => instead_any G T t x hx hm p n q s u w2 (hv.keeps k) hu hG hT (by omega))
 have HTb := hid (fun w2 (k : Keeps w w2) => text_any b hob.1 (by omega) _ w2 (hvb.keeps k))
 have HTa := hid (fun w2 (k : Keeps w w2) => text_any (Fm.or a1 a2) hoa.1 (by omega) _ w2 (hva.keeps k))
 have HV := hid hv; have HVA := hid hva; have HVB := hid hvb
 clear hv hx hla hlb hva hvb
 have q0 := And.intro qa qb
 obtain ⟨ho1, ho2⟩ := OkF.or hoa
 have hle := len_le_wt (Fm.or a1 a2)
 have hle2 := len_le_wt b
 simp only [Fm.enc, List.length_cons, List.length_append] at hle
 have HF := hid (first_any _ _ a1 a2.enc _ _ (HVA.out.keeps kD) rfl)
 have HS := hid (fun w2 (k : Keeps w w2) => second_any _ _ a1 a2 _ w2 (HVA.out.keeps k) rfl)
 have hbig1 : (Fm.imp a1 b).enc.length ≤ 100000000 := by simp only [Fm.enc, List.length_cons, List.length_append]; omega
 have hbig2 : (Fm.imp a2 b).enc.length ≤ 100000000 := by simp only [Fm.enc, List.length_cons, List.length_append]; omega
 have hw1 : (Fm.imp a1 b).wf := (OkF.mkImp ho1 hob).1
 have hw2 : (Fm.imp a2 b).wf := (OkF.mkImp ho2 hob).1
 have hwt2 : wts [Fm.imp a1 b, Fm.imp a2 b] ≤ 50000000 := by have := wt_orimp a1 a2 b; rw [← ht] at this; simp only [wts]; omega
 have hsz1 : a1.enc.length + b.enc.length ≤ 1000000000 := by omega
 have hsz2 : a2.enc.length + b.enc.length ≤ 1000000000 := by omega
 replace hk := kA.cell (show w.cell? ⟨b0, off, none⟩ = some (.int .i64 3) from hk)
 have q1 := hid (fun B => cells_keeps ((Keeps.refl ((w.alloc (.cells #[.slice p n q, .string s] 157)).alloc B)).drew) (cells_alloc B (And.intro pa pb')))
 have HL := hid (fun v1 (h1 : Nds (w.alloc (.cells #[.slice p n q, .string s] 157)).drew v1 a1.enc) =>
  (NdsL.lit2N (N := w.heap.size + 1) (w := w.alloc (.cells #[.slice p n q, .string s] 157)) (by simp) (Nds.undrew h1) (HVB.out.keeps kA)).keeps (Keeps.refl _).drew)
 go_enter Tryz.func295, Tryz.ntmps295
 go_wp2_with fail
 go_region_held3 (fun w' => w'.cell? ⟨w.heap.size, 0, none⟩ = some (.slice p n q) ∧ w'.cell? ⟨w.heap.size, 1, none⟩ = some (.string s)) (first | exact q0 | exact q1.out _ | exact q2 | exact cells_alloc _ q2 | exact q3 | exact cells_alloc _ q3 | exact q4 | exact cells_alloc _ q4 | exact q5 | exact cells_alloc _ q5 | exact q6 | exact cells_alloc _ q6) (first
  | (go_at_call 167; refine HF.out.mono ?_; rintro e w' ⟨v1, rfl, hv1, rfl⟩; obtain ⟨p1, n1, c1, rfl⟩ := hv1.shape)
  | (go_at_call 168; refine (HS.out w3 (((kA.alloc _).drew.trans k2).trans k3)).mono ?_; rintro e w' ⟨v2, rfl, hv2, rfl⟩; obtain ⟨p2, n2, c2, rfl⟩ := hv2.shape)
  | (go_at_call 299; first
    | ((with_reducible refine (arrow_two a1.enc b.enc _ _ (HL.out _ hv1) hsz1).mono ?_); rintro e w2 ⟨v3, rfl, hv3, k2⟩; have q2 := cells_keeps k2 (q1.out _); have hn3 : Nds w2 v3 (Fm.imp a1 b).enc := hv3.nds (Nat.le_trans hbig1 (by omega)))
    | ((with_reducible refine (arrow_two a2.enc b.enc _ _ (NdsL.lit2 hv2 (HVB.out.keeps (((kA.alloc _).drew.trans k2).trans k3))) hsz2).mono ?_); rintro e w4 ⟨v4, rfl, hv4, k4⟩; have q4 := cells_keeps k4 (cells_alloc _ q3); have hn4 : Nds w4 v4 (Fm.imp a2 b).enc := hv4.nds (Nat.le_trans hbig2 (by omega))))
  | (go_at_call 39; first
    | ((with_reducible refine (text_any (Fm.imp a1 b) hw1 hbig1 _ _ hn3).mono ?_); rintro e w3 ⟨s1, rfl, hs1, k3⟩; have q3 := cells_keeps k3 q2)
    | ((with_reducible refine (text_any (Fm.imp a2 b) hw2 hbig2 _ _ hn4).mono ?_); rintro e w5 ⟨s2, rfl, hs2, k5⟩; have q5 := cells_keeps k5 q4))
  | (go_at_call 294; refine (HI.out [Fm.imp a1 b, Fm.imp a2 b] _ _ ((((((kA.alloc _).drew.trans k2).trans k3).alloc _).trans k4).trans k5 |>.alloc _) (Left.lit2 w5 hs1 hs2) (okL_two (OkF.mkImp ho1 hob) (OkF.mkImp ho2 hob)) hwt2).mono ?_; rintro e w6 ⟨p6, n6, c6, R, rfl, hR, hmem, hwR, k6⟩; have q6 := cells_keeps k6 (cells_alloc _ q5)))
 go_wp2
 go_ret2
 exact ⟨_, true, rfl, (((((((kA.alloc _).drew.trans k2).trans k3).alloc _).trans k4).trans k5 |>.alloc _).trans k6).alloc _, (fun _ => ⟨_, GoalL.lit1 hR hs, prem_orimp hG hc hm hmem hwR ht rfl ho1 ho2 hob⟩), (fun h => by cases h)⟩
end Go.Proofs.YtikooimokfbffaaGreatDoor
namespace Go.Proofs.YtikooimokfbffaaGreatDoor
open Go.RowKit
set_option maxRecDepth 20000 in
set_option maxHeartbeats 2000000 in
theorem implied_any (G : List Fm) (c a b t : Fm) (x s : ByteArray) (ht : t = Fm.imp a b) (hx : bts x = t.body) (hs : bts s = c.body) (hm : t ∈ G) (hG : OkL G) (hc : OkF c) (hl : wts G + wt c ≤ 50000000)
  (p : Option Addr) (n q : Nat) (va vb : Value) (w : World) (hv : Left w (.slice p n q) G) (hva : Nds w va a.enc) (hvb : Nds w vb b.enc) :
  Calls Tryz.prog 295 #[.agg #[.slice p n q, .string s], .string x, va, vb] w fun e w' => ∃ u ok, e = .returned (.tuple #[u, .bool ok]) ∧ Keeps w w' ∧ (ok = true → ∃ gs, GoalL w' u gs ∧ Prem G c gs) ∧ (ok = false → Left4 G t) := by
 have hOk := hG t hm
 have hwt := wts_mem hm
 obtain ⟨hoa, hob⟩ := OkF.imp (ht ▸ hOk)
 have hab := wt_imp a b
 rw [← ht] at hab
 have hla := len_le_wt a
 have hlb := len_le_wt b
 obtain ⟨b0, off, na, ca, rfl, h0, h1, h2, h3, hk, _⟩ := hva.root
 obtain ⟨pb, nb, cb, rfl⟩ := hvb.shape
 have kA := (Keeps.refl w).alloc (.cells #[.slice p n q, .string s] 157)
 have kD := kA.drew
 have pa : (w.alloc (.cells #[.slice p n q, .string s] 157)).cell? ⟨w.heap.size, 0, none⟩ = some (.slice p n q) := by simp
 have pb' : (w.alloc (.cells #[.slice p n q, .string s] 157)).cell? ⟨w.heap.size, 1, none⟩ = some (.string s) := by simp
 have qa : (w.alloc (.cells #[.slice p n q, .string s] 157)).drew.cell? ⟨w.heap.size, 0, none⟩ = some (.slice p n q) := by show (w.alloc _).cell? _ = _; simp
 have qb : (w.alloc (.cells #[.slice p n q, .string s] 157)).drew.cell? ⟨w.heap.size, 1, none⟩ = some (.string s) := by show (w.alloc _).cell? _ = _; simp
 have HI := hid (fun (T : List Fm) (u : Value) (w2 : World) (k : Keeps w w2) (hu : Left w2 u T) (hT : OkL T) (hl2 : wts T ≤ 50000000) => instead_any G T t x hx hm p n q s u w2 (hv.keeps k) hu hG hT (by omega))
 have HTb := hid (fun w2 (k : Keeps w w2) => text_any b hob.1 (by omega) _ w2 (hvb.keeps k))
 have HTa := hid (fun w2 (k : Keeps w w2) => text_any a hoa.1 (by omega) _ w2 (hva.keeps k))
 have HX := hid hx; have HV := hid hv; have HVA := hid hva; have HVB := hid hvb
 clear hv hx hla hlb hva hvb
 have q0 := And.intro qa qb
 cases a with
 | var i =>
  obtain ⟨ss, hss, htx⟩ := HV.out
  have HCt := hid (fun (sa : ByteArray) (h : bts sa = (Fm.var i).body) (w2 : World) (k : Keeps w w2) => containsF_any ss G htx (fun a ha => (hG a ha).1) sa (Fm.var i) h hoa.1 _ w2 (hss.keeps k))
  clear hss htx
  replace hk := kA.cell (show w.cell? ⟨b0, off, none⟩ = some (.int .i64 0) from hk)
  go_enter Tryz.func295, Tryz.ntmps295
  go_wp2_with fail
  go_region_held3 (fun w' => w'.cell? ⟨w.heap.size, 0, none⟩ = some (.slice p n q) ∧ w'.cell? ⟨w.heap.size, 1, none⟩ = some (.string s)) (first | exact q0 | exact q2 | exact cells_alloc _ q2 | exact q3 | exact cells_alloc _ q3 | exact q4 | exact cells_alloc _ q4) (first
   | (go_at_call 39; first
     | ((with_reducible refine (HTb.out _ kD).mono ?_); rintro e w2 ⟨sb, rfl, hsb, k2⟩; have q2 := cells_keeps k2 q0)
     | ((with_reducible refine (HTa.out _ (((kD.trans k2).alloc _).trans k3)).mono ?_); rintro e w4 ⟨sa, rfl, hsa, k4⟩; have q4 := cells_keeps k4 q3; have k34 := (((kD.trans k2).alloc (.cells #[.string sb] 9)).trans k3).trans k4)
     | ((with_reducible refine (HTa.out _ (((((kD.trans k2).alloc _).trans k3).alloc _))).mono ?_); rintro e w4 ⟨sa, rfl, hsa, k4⟩; have q4 := cells_keeps k4 (cells_alloc _ q3); have k34 := ((((kD.trans k2).alloc (.cells #[.string sb] 9)).trans k3).alloc _).trans k4))
   | (go_at_call 294; refine (HI.out [b] _ _ ((kD.trans k2).alloc _) (Left.lit1 w2 hsb) (okL_one hob) (by simp only [wts]; omega)).mono ?_; rintro e w3 ⟨p3, n3, c3, R, rfl, hR, hmem, hwR, k3⟩; have q3 := cells_keeps k3 (cells_alloc _ q2))
   | (go_at_call 261; first
     | ((with_reducible refine (HCt.out sa hsa _ k34).mono ?_); rintro e w5 ⟨rfl, rfl⟩)
     | ((with_reducible refine (HCt.out sa hsa _ (k34.alloc _)).mono ?_); rintro e w5 ⟨rfl, rfl⟩)))
  all_goals
   go_wp2
   go_ret2
   first
   | exact ⟨_, _, rfl, k34, fun h => ⟨_, (GoalL.lit1 hR hs).keeps k4, prem_var hG hc hm hmem hwR ht rfl hob (of_decide_eq_true h)⟩, fun h => .inr (.inr (.inl ⟨_, _, ht, of_decide_eq_false h⟩))⟩
   | exact ⟨_, _, rfl, k34.alloc _, fun h => ⟨_, GoalL.lit1 (hR.keeps k4) hs, prem_var hG hc hm hmem hwR ht rfl hob (of_decide_eq_true h)⟩, fun h => .inr (.inr (.inl ⟨_, _, ht, of_decide_eq_false h⟩))⟩
 | fls =>
  replace hk := kA.cell (show w.cell? ⟨b0, off, none⟩ = some (.int .i64 1) from hk)
  go_enter Tryz.func295, Tryz.ntmps295
  go_wp2_with fail
  refine (HI.out [] _ _ kA (Left.nil _) okL_nil (by simp [wts])).mono ?_; rintro e w2 ⟨p2, n2, q2, R, rfl, hR, hmem, hwR, k2⟩
  go_wp2_with fail
  go_ret2
  exact ⟨_, true, rfl, (kA.trans k2).alloc _, fun _ => ⟨_, GoalL.lit1 hR hs, prem_fls hG hc hm hwR ht rfl hmem⟩, fun h => by cases h⟩
 | imp a1 a2 =>
  replace hk := kA.cell (show w.cell? ⟨b0, off, none⟩ = some (.int .i64 4) from hk)
  go_enter Tryz.func295, Tryz.ntmps295
  go_wp2_with fail
  go_ret2
  exact ⟨_, false, rfl, kA, (fun h => by cases h), fun _ => .inr (.inr (.inr ⟨_, _, _, ht⟩))⟩
 | box a1 => exact absurd hoa.2 (by simp [Fm.plain])
 | dia a1 => exact absurd hoa.2 (by simp [Fm.plain])
 | and a1 a2 => exact implied_and G c a1 a2 b t x s ht HX.out hs hm hG hc hl p n q _ _ w HV.out HVA.out HVB.out
 | or a1 a2 => exact implied_or G c a1 a2 b t x s ht HX.out hs hm hG hc hl p n q _ _ w HV.out HVA.out HVB.out
end Go.Proofs.YtikooimokfbffaaGreatDoor
