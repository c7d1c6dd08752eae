import Derived.Test.YtfmmajgkjkmghaaGreatEM3
import Derived.Deep.RegionHeld3
import Derived.Test.YtfmmajgkjkmghaaGreatEVK
import Derived.Test.YtfmmajgkjkmghaaGreatEVE
import Derived.Lib.SliceRun
import Derived.Test.YtfmmajgkjkmghaaGreatEVB
/- Walks: the formulas of a rule; arrows; members of a list of numbers. -/
namespace Go.Proofs.YtfmmajgkjkmghaaGreat
open Go.RowKit
set_option maxRecDepth 20000 in
set_option maxHeartbeats 1000000 in
theorem arrow_two (x y : List Nd) (v : Value) (w : World) (hv : NdsL w v [x, y]) (hl : x.length + y.length ≤ 1000000000) : Calls Tryz.prog 239 #[v] w (RetN w (⟨4, 0⟩ :: (x ++ y))) := by
 have hv0 := hv
 obtain ⟨p, cap, rfl, hle, hmx, hlm, _⟩ := hv
 simp only [List.length_cons, List.length_nil] at *
 unfold maxLen at hmx
 obtain ⟨b, off, u1, rfl, hc1, h1⟩ := hv0.get 0 (by simp)
 obtain ⟨b', off', u2, e, hc2, h2⟩ := hv0.get 1 (by simp)
 cases e
 simp only [List.getElem_cons_zero, List.getElem_cons_succ] at h1 h2
 rw [Nat.add_zero] at hc1
 obtain ⟨p1, n1, q1, rfl⟩ := h1.shape
 obtain ⟨p2, n2, q2, rfl⟩ := h2.shape
 clear hv0
 have HJ := hid (join_any 4 x y _ _ w h1 h2 (by omega))
 clear h1 h2
 go_enter Tryz.func239, Tryz.ntmps239
 go_wp2
 go_loopw [3, 4] (fun o i' wr => (i' = .int .i64 0 ∧ o = .slice p2 n2 q2 ∧ wr = w) ∨ (i' = .int .i64 (-1) ∧ OwnN wr w.heap.size o (⟨4, 0⟩ :: (x ++ y)) ∧ Keeps w wr)) (fun _ i _ => (intOf i + 1).toNat)
 case atStart => exact .inl ⟨rfl, rfl, rfl⟩
 case round =>
  rcases hrel with ⟨rfl, rfl, rfl⟩ | ⟨rfl, ho, kw⟩
  ·go_wp2_with fail
   refine HJ.out.mono ?_; rintro e w2 ⟨v2, rfl, hv2, k2⟩
   go_wp2_with fail
   go_roundw
   case rel => exact .inr ⟨rfl, hv2, k2⟩
   case measure => simp [intOf]
  ·go_wp2
   go_ret
   exact ⟨_, rfl, ho, kw⟩
end Go.Proofs.YtfmmajgkjkmghaaGreat
namespace Go.Proofs.YtfmmajgkjkmghaaGreat
open Go.RowKit
set_option maxRecDepth 20000 in
set_option maxHeartbeats 1000000 in
theorem arrow_three (x y z : List Nd) (v : Value) (w : World) (hv : NdsL w v [x, y, z]) (hl : x.length + y.length + z.length ≤ 1000000000) : Calls Tryz.prog 239 #[v] w (RetN w (⟨4, 0⟩ :: (x ++ (⟨4, 0⟩ :: (y ++ z))))) := by
 have hv0 := hv
 obtain ⟨p, cap, rfl, hle, hmx, hlm, _⟩ := hv
 simp only [List.length_cons, List.length_nil] at *
 unfold maxLen at hmx
 obtain ⟨b, off, u1, rfl, hc1, h1⟩ := hv0.get 0 (by simp)
 obtain ⟨b', off', u2, e, hc2, h2⟩ := hv0.get 1 (by simp)
 cases e
 obtain ⟨b', off', u3, e, hc3, h3⟩ := hv0.get 2 (by simp)
 cases e
 simp only [List.getElem_cons_zero, List.getElem_cons_succ] at h1 h2 h3
 rw [Nat.add_zero] at hc1
 obtain ⟨p1, n1, q1, rfl⟩ := h1.shape
 obtain ⟨p2, n2, q2, rfl⟩ := h2.shape
 obtain ⟨p3, n3, q3, rfl⟩ := h3.shape
 clear hv0
 have HJ := hid (join_any 4 y z _ _ w h2 h3 (by omega))
 have HJ2 := hid (fun u2 w2 (k : Keeps w w2) (h : Nds w2 u2 (⟨4, 0⟩ :: (y ++ z))) => join_any 4 x (⟨4, 0⟩ :: (y ++ z)) _ u2 w2 (h1.keeps k) h (by simp only [List.length_cons, List.length_append]; omega))
 have hlen : (⟨4, 0⟩ :: (y ++ z) : List Nd).length ≤ 2147483648 := by simp only [List.length_cons, List.length_append]; omega
 clear h1 h2 h3
 go_enter Tryz.func239, Tryz.ntmps239
 go_wp2
 go_loopw [3, 4] (fun o i' wr => (i' = .int .i64 1 ∧ o = .slice p3 n3 q3 ∧ wr = w) ∨ (i' = .int .i64 0 ∧ OwnN wr w.heap.size o (⟨4, 0⟩ :: (y ++ z)) ∧ Keeps w wr) ∨ (i' = .int .i64 (-1) ∧ OwnN wr w.heap.size o (⟨4, 0⟩ :: (x ++ (⟨4, 0⟩ :: (y ++ z)))) ∧ Keeps w wr)) (fun _ i _ => (intOf i + 1).toNat)
 case atStart => exact .inl ⟨rfl, rfl, rfl⟩
 case round =>
  rcases hrel with ⟨rfl, rfl, rfl⟩ | ⟨rfl, ho, kw⟩ | ⟨rfl, ho, kw⟩
  ·go_wp2_with fail
   refine HJ.out.mono ?_; rintro e w2 ⟨v2, rfl, hv2, k2⟩
   go_wp2_with fail
   go_roundw
   case rel => exact .inr (.inl ⟨rfl, hv2, k2⟩)
   case measure => simp [intOf]
  ·have hn := ho.nds hlen
   obtain ⟨p4, n4, q4, rfl⟩ := hn.shape
   replace hc1 := kw.cell hc1
   have HN := hid hn; clear hn
   go_wp2_with fail
   refine (HJ2.out _ _ kw HN.out).mono ?_; rintro e w2 ⟨v2, rfl, hv2, k2⟩
   go_wp2_with fail
   go_roundw
   case rel => exact .inr (.inr ⟨rfl, hv2.mono kw.size, kw.trans k2⟩)
   case measure => simp [intOf]
  ·go_wp2
   go_ret
   exact ⟨_, rfl, ho, kw⟩
theorem Nds.undrew {w : World} {v : Value} {a : List Nd} (h : Nds w.drew v a) : Nds w v a := h
theorem cells_alloc {w : World} {a b : Addr} {u v : Value} (o : Obj) (h : w.cell? a = some u ∧ w.cell? b = some v) : (w.alloc o).cell? a = some u ∧ (w.alloc o).cell? b = some v := ⟨Lib.cell?_alloc_some o h.1, Lib.cell?_alloc_some o h.2⟩
theorem cells_keeps {w w' : World} {a b : Addr} {u v : Value} (k : Keeps w w') (h : w.cell? a = some u ∧ w.cell? b = some v) : w'.cell? a = some u ∧ w'.cell? b = some v := ⟨k.cell h.1, k.cell h.2⟩
theorem cells4_alloc {w : World} {a b c d : Addr} {u v x y : Value} (o : Obj) (h : (w.cell? a = some u ∧ w.cell? b = some v) ∧ (w.cell? c = some x ∧ w.cell? d = some y)) : ((w.alloc o).cell? a = some u ∧ (w.alloc o).cell? b = some v) ∧ ((w.alloc o).cell? c = some x ∧ (w.alloc o).cell? d = some y) := ⟨cells_alloc o h.1, cells_alloc o h.2⟩
theorem cells4_keeps {w w' : World} {a b c d : Addr} {u v x y : Value} (k : Keeps w w') (h : (w.cell? a = some u ∧ w.cell? b = some v) ∧ (w.cell? c = some x ∧ w.cell? d = some y)) : (w'.cell? a = some u ∧ w'.cell? b = some v) ∧ (w'.cell? c = some x ∧ w'.cell? d = some y) := ⟨cells_keeps k h.1, cells_keeps k h.2⟩
end Go.Proofs.YtfmmajgkjkmghaaGreat
namespace Go.Proofs.YtfmmajgkjkmghaaGreat
open Go.RowKit
set_option maxRecDepth 20000 in
set_option maxHeartbeats 2000000 in
theorem implied_and (G : List Fm) (c a1 a2 b t : Fm) (x s : ByteArray) (ht : t = Fm.imp (Fm.and a1 a2) b) (hx : bts x = t.body) (hs : bts s = c.body) (hm : t ∈ G) (hG : OkL G) (hc : OkF c) (hl : wts G + wt c ≤ 50000000)
  (p : Option Addr) (n q : Nat) (va vb : Value) (w : World) (hv : Left w (.slice p n q) G) (hva : Nds w va (Fm.and a1 a2).enc) (hvb : Nds w vb b.enc) :
  Calls Tryz.prog 235 #[.agg #[.slice p n q, .string s], .string x, va, vb] w fun e w' => ∃ u ok, e = .returned (.tuple #[u, .bool ok]) ∧ Keeps w w' ∧ (ok = true → ∃ gs, GoalL w' u gs ∧ Prem G c gs) ∧ (ok = false → Left4 G t) := by
 have hOk := hG t hm
 have hwt := wts_mem hm
 obtain ⟨hoa, hob⟩ := OkF.imp (ht ▸ hOk)
 have hab := wt_imp (Fm.and a1 a2) b
 rw [← ht] at hab
 have hla := len_le_wt (Fm.and a1 a2)
 have hlb := len_le_wt b
 obtain ⟨b0, off, na, ca, rfl, h0, h1, h2, h3, hk, _⟩ := hva.root
 obtain ⟨pb, nb, cb, rfl⟩ := hvb.shape
 have kA := (Keeps.refl w).alloc (.cells #[.slice p n q, .string s] 144)
 have kD := kA.drew
 have pa : (w.alloc (.cells #[.slice p n q, .string s] 144)).cell? ⟨w.heap.size, 0, none⟩ = some (.slice p n q) := by simp
 have pb' : (w.alloc (.cells #[.slice p n q, .string s] 144)).cell? ⟨w.heap.size, 1, none⟩ = some (.string s) := by simp
 have qa : (w.alloc (.cells #[.slice p n q, .string s] 144)).drew.cell? ⟨w.heap.size, 0, none⟩ = some (.slice p n q) := by show (w.alloc _).cell? _ = _; simp
 have qb : (w.alloc (.cells #[.slice p n q, .string s] 144)).drew.cell? ⟨w.heap.size, 1, none⟩ = some (.string s) := by show (w.alloc _).cell? _ = _; simp
 have HI := hid (fun (T : List Fm) (u : Value) (w2 : World) (k : Keeps w w2) (hu : Left w2 u T) (hT : OkL T) (hl2 : wts T ≤ 50000000) => instead_any G T t x hx hm p n q s u w2 (hv.keeps k) hu hG hT (by omega))
 have HTb := hid (fun w2 (k : Keeps w w2) => text_any b hob.1 (by omega) _ w2 (hvb.keeps k))
 have HTa := hid (fun w2 (k : Keeps w w2) => text_any (Fm.and a1 a2) hoa.1 (by omega) _ w2 (hva.keeps k))
 have HV := hid hv; have HVA := hid hva; have HVB := hid hvb
 clear hv hx hla hlb hva hvb
 have q0 := And.intro qa qb
 obtain ⟨ho1, ho2⟩ := OkF.and hoa
 have hle := len_le_wt (Fm.and a1 a2)
 have hle2 := len_le_wt b
 simp only [Fm.enc, List.length_cons, List.length_append] at hle
 have HF := hid (first_any _ _ a1 a2.enc _ _ (HVA.out.keeps kD) rfl)
 have HS := hid (second_any _ _ a1 a2 _ _ (HVA.out.keeps kD) rfl)
 have HBd := hid (HVB.out.keeps kD)
 have hbig : (Fm.imp a1 (Fm.imp a2 b)).enc.length ≤ 100000000 := by simp only [Fm.enc, List.length_cons, List.length_append]; omega
 have hwt2 : wts [Fm.imp a1 (Fm.imp a2 b)] ≤ 50000000 := by have := wt_andimp a1 a2 b; rw [← ht] at this; simp only [wts]; omega
 have hsz : a1.enc.length + a2.enc.length + b.enc.length ≤ 1000000000 := by omega
 replace hk := kA.cell (show w.cell? ⟨b0, off, none⟩ = some (.int .i64 2) from hk)
 have q1 := hid (fun B => cells_keeps ((Keeps.refl ((w.alloc (.cells #[.slice p n q, .string s] 144)).alloc B)).drew) (cells_alloc B (And.intro pa pb')))
 have HL := hid (fun v1 v2 (h1 : Nds (w.alloc (.cells #[.slice p n q, .string s] 144)).drew v1 a1.enc) (h2 : Nds (w.alloc (.cells #[.slice p n q, .string s] 144)).drew v2 a2.enc) =>
  (NdsL.lit3N (N := w.heap.size + 1) (w := w.alloc (.cells #[.slice p n q, .string s] 144)) (by simp) (Nds.undrew h1) (Nds.undrew h2) (HVB.out.keeps kA)).keeps (Keeps.refl _).drew)
 go_enter Tryz.func235, Tryz.ntmps235
 go_wp2_with fail
 go_region_held3 (fun w' => w'.cell? ⟨w.heap.size, 0, none⟩ = some (.slice p n q) ∧ w'.cell? ⟨w.heap.size, 1, none⟩ = some (.string s)) (first | exact q0 | exact q1.out _ | exact q2 | exact cells_alloc _ q2 | exact q3 | exact cells_alloc _ q3 | exact q4 | exact cells_alloc _ q4) (first
  | (go_at_call 155; refine HF.out.mono ?_; rintro e w' ⟨v1, rfl, hv1, rfl⟩; obtain ⟨p1, n1, c1, rfl⟩ := hv1.shape)
  | (go_at_call 157; refine HS.out.mono ?_; rintro e w' ⟨v2, rfl, hv2, rfl⟩; obtain ⟨p2, n2, c2, rfl⟩ := hv2.shape)
  | (go_at_call 239; refine (arrow_three a1.enc a2.enc b.enc _ _ (HL.out _ _ hv1 hv2) hsz).mono ?_; rintro e w2 ⟨v3, rfl, hv3, k2⟩; have q2 := cells_keeps k2 (q1.out _))
  | (go_at_call 76; refine (text_any (Fm.imp a1 (Fm.imp a2 b)) (OkF.mkImp ho1 (OkF.mkImp ho2 hob)).1 hbig _ _ (hv3.nds (Nat.le_trans hbig (by omega)))).mono ?_; rintro e w3 ⟨sb, rfl, hsb, k3⟩; have q3 := cells_keeps k3 q2)
  | (go_at_call 234; refine (HI.out [Fm.imp a1 (Fm.imp a2 b)] _ _ ((((kA.alloc _).drew.trans k2).trans k3).alloc _) (Left.lit1 w3 hsb) (okL_one (OkF.mkImp ho1 (OkF.mkImp ho2 hob))) hwt2).mono ?_; rintro e w4 ⟨p4, n4, c4, R, rfl, hR, hmem, hwR, k4⟩; have q4 := cells_keeps k4 (cells_alloc _ q3)))
 go_wp2
 go_ret2
 exact ⟨_, true, rfl, (((((kA.alloc _).drew.trans k2).trans k3).alloc _).trans k4).alloc _, fun _ => ⟨_, GoalL.lit1 hR hs, prem_andimp hG hc hm hmem hwR ht rfl ho1 ho2 hob⟩, fun h => by cases h⟩
end Go.Proofs.YtfmmajgkjkmghaaGreat
namespace Go.Proofs.YtfmmajgkjkmghaaGreat
open Go.RowKit
set_option maxRecDepth 20000 in
set_option maxHeartbeats 2000000 in
theorem implied_or (G : List Fm) (c a1 a2 b t : Fm) (x s : ByteArray) (ht : t = Fm.imp (Fm.or a1 a2) b) (hx : bts x = t.body) (hs : bts s = c.body) (hm : t ∈ G) (hG : OkL G) (hc : OkF c) (hl : wts G + wt c ≤ 50000000)
  (p : Option Addr) (n q : Nat) (va vb : Value) (w : World) (hv : Left w (.slice p n q) G) (hva : Nds w va (Fm.or a1 a2).enc) (hvb : Nds w vb b.enc) :
  Calls Tryz.prog 235 #[.agg #[.slice p n q, .string s], .string x, va, vb] w fun e w' => ∃ u ok, e = .returned (.tuple #[u, .bool ok]) ∧ Keeps w w' ∧ (ok = true → ∃ gs, GoalL w' u gs ∧ Prem G c gs) ∧ (ok = false → Left4 G t) := by
 have hOk := hG t hm
 have hwt := wts_mem hm
 obtain ⟨hoa, hob⟩ := OkF.imp (ht ▸ hOk)
 have hab := wt_imp (Fm.or a1 a2) b
 rw [← ht] at hab
 have hla := len_le_wt (Fm.or a1 a2)
 have hlb := len_le_wt b
 obtain ⟨b0, off, na, ca, rfl, h0, h1, h2, h3, hk, _⟩ := hva.root
 obtain ⟨pb, nb, cb, rfl⟩ := hvb.shape
 have kA := (Keeps.refl w).alloc (.cells #[.slice p n q, .string s] 144)
 have kD := kA.drew
 have pa : (w.alloc (.cells #[.slice p n q, .string s] 144)).cell? ⟨w.heap.size, 0, none⟩ = some (.slice p n q) := by simp
 have pb' : (w.alloc (.cells #[.slice p n q, .string s] 144)).cell? ⟨w.heap.size, 1, none⟩ = some (.string s) := by simp
 have qa : (w.alloc (.cells #[.slice p n q, .string s] 144)).drew.cell? ⟨w.heap.size, 0, none⟩ = some (.slice p n q) := by show (w.alloc _).cell? _ = _; simp
 have qb : (w.alloc (.cells #[.slice p n q, .string s] 144)).drew.cell? ⟨w.heap.size, 1, none⟩ = some (.string s) := by show (w.alloc _).cell? _ = _; simp
 have HI := hid (fun (T : List Fm) (u : Value) (w2 : World) (k : Keeps w w2) (hu : Left w2 u T) (hT : OkL T) (hl2 : wts T ≤ 50000000) => instead_any G T t x hx hm p n q s u w2 (hv.keeps k) hu hG hT (by omega))
 have HTb := hid (fun w2 (k : Keeps w w2) => text_any b hob.1 (by omega) _ w2 (hvb.keeps k))
 have HTa := hid (fun w2 (k : Keeps w w2) => text_any (Fm.or a1 a2) hoa.1 (by omega) _ w2 (hva.keeps k))
 have HV := hid hv; have HVA := hid hva; have HVB := hid hvb
 clear hv hx hla hlb hva hvb
 have q0 := And.intro qa qb
 obtain ⟨ho1, ho2⟩ := OkF.or hoa
 have hle := len_le_wt (Fm.or a1 a2)
 have hle2 := len_le_wt b
 simp only [Fm.enc, List.length_cons, List.length_append] at hle
 have HF := hid (first_any _ _ a1 a2.enc _ _ (HVA.out.keeps kD) rfl)
 have HS := hid (fun w2 (k : Keeps w w2) => second_any _ _ a1 a2 _ w2 (HVA.out.keeps k) rfl)
 have hbig1 : (Fm.imp a1 b).enc.length ≤ 100000000 := by simp only [Fm.enc, List.length_cons, List.length_append]; omega
 have hbig2 : (Fm.imp a2 b).enc.length ≤ 100000000 := by simp only [Fm.enc, List.length_cons, List.length_append]; omega
 have hw1 : (Fm.imp a1 b).wf := (OkF.mkImp ho1 hob).1
 have hw2 : (Fm.imp a2 b).wf := (OkF.mkImp ho2 hob).1
 have hwt2 : wts [Fm.imp a1 b, Fm.imp a2 b] ≤ 50000000 := by have := wt_orimp a1 a2 b; rw [← ht] at this; simp only [wts]; omega
 have hsz1 : a1.enc.length + b.enc.length ≤ 1000000000 := by omega
 have hsz2 : a2.enc.length + b.enc.length ≤ 1000000000 := by omega
 replace hk := kA.cell (show w.cell? ⟨b0, off, none⟩ = some (.int .i64 3) from hk)
 have q1 := hid (fun B => cells_keeps ((Keeps.refl ((w.alloc (.cells #[.slice p n q, .string s] 144)).alloc B)).drew) (cells_alloc B (And.intro pa pb')))
 have HL := hid (fun v1 (h1 : Nds (w.alloc (.cells #[.slice p n q, .string s] 144)).drew v1 a1.enc) =>
  (NdsL.lit2N (N := w.heap.size + 1) (w := w.alloc (.cells #[.slice p n q, .string s] 144)) (by simp) (Nds.undrew h1) (HVB.out.keeps kA)).keeps (Keeps.refl _).drew)
 go_enter Tryz.func235, Tryz.ntmps235
 go_wp2_with fail
 go_region_held3 (fun w' => w'.cell? ⟨w.heap.size, 0, none⟩ = some (.slice p n q) ∧ w'.cell? ⟨w.heap.size, 1, none⟩ = some (.string s)) (first | exact q0 | exact q1.out _ | exact q2 | exact cells_alloc _ q2 | exact q3 | exact cells_alloc _ q3 | exact q4 | exact cells_alloc _ q4 | exact q5 | exact cells_alloc _ q5 | exact q6 | exact cells_alloc _ q6) (first
  | (go_at_call 155; refine HF.out.mono ?_; rintro e w' ⟨v1, rfl, hv1, rfl⟩; obtain ⟨p1, n1, c1, rfl⟩ := hv1.shape)
  | (go_at_call 157; refine (HS.out w3 (((kA.alloc _).drew.trans k2).trans k3)).mono ?_; rintro e w' ⟨v2, rfl, hv2, rfl⟩; obtain ⟨p2, n2, c2, rfl⟩ := hv2.shape)
  | (go_at_call 239; first
    | ((with_reducible refine (arrow_two a1.enc b.enc _ _ (HL.out _ hv1) hsz1).mono ?_); rintro e w2 ⟨v3, rfl, hv3, k2⟩; have q2 := cells_keeps k2 (q1.out _); have hn3 : Nds w2 v3 (Fm.imp a1 b).enc := hv3.nds (Nat.le_trans hbig1 (by omega)))
    | ((with_reducible refine (arrow_two a2.enc b.enc _ _ (NdsL.lit2 hv2 (HVB.out.keeps (((kA.alloc _).drew.trans k2).trans k3))) hsz2).mono ?_); rintro e w4 ⟨v4, rfl, hv4, k4⟩; have q4 := cells_keeps k4 (cells_alloc _ q3); have hn4 : Nds w4 v4 (Fm.imp a2 b).enc := hv4.nds (Nat.le_trans hbig2 (by omega))))
  | (go_at_call 76; first
    | ((with_reducible refine (text_any (Fm.imp a1 b) hw1 hbig1 _ _ hn3).mono ?_); rintro e w3 ⟨s1, rfl, hs1, k3⟩; have q3 := cells_keeps k3 q2)
    | ((with_reducible refine (text_any (Fm.imp a2 b) hw2 hbig2 _ _ hn4).mono ?_); rintro e w5 ⟨s2, rfl, hs2, k5⟩; have q5 := cells_keeps k5 q4))
  | (go_at_call 234; refine (HI.out [Fm.imp a1 b, Fm.imp a2 b] _ _ ((((((kA.alloc _).drew.trans k2).trans k3).alloc _).trans k4).trans k5 |>.alloc _) (Left.lit2 w5 hs1 hs2) (okL_two (OkF.mkImp ho1 hob) (OkF.mkImp ho2 hob)) hwt2).mono ?_; rintro e w6 ⟨p6, n6, c6, R, rfl, hR, hmem, hwR, k6⟩; have q6 := cells_keeps k6 (cells_alloc _ q5)))
 go_wp2
 go_ret2
 exact ⟨_, true, rfl, (((((((kA.alloc _).drew.trans k2).trans k3).alloc _).trans k4).trans k5 |>.alloc _).trans k6).alloc _, (fun _ => ⟨_, GoalL.lit1 hR hs, prem_orimp hG hc hm hmem hwR ht rfl ho1 ho2 hob⟩), (fun h => by cases h)⟩
end Go.Proofs.YtfmmajgkjkmghaaGreat
namespace Go.Proofs.YtfmmajgkjkmghaaGreat
open Go.RowKit
set_option maxRecDepth 20000 in
set_option maxHeartbeats 2000000 in
theorem implied_any (G : List Fm) (c a b t : Fm) (x s : ByteArray) (ht : t = Fm.imp a b) (hx : bts x = t.body) (hs : bts s = c.body) (hm : t ∈ G) (hG : OkL G) (hc : OkF c) (hl : wts G + wt c ≤ 50000000)
  (p : Option Addr) (n q : Nat) (va vb : Value) (w : World) (hv : Left w (.slice p n q) G) (hva : Nds w va a.enc) (hvb : Nds w vb b.enc) :
  Calls Tryz.prog 235 #[.agg #[.slice p n q, .string s], .string x, va, vb] w fun e w' => ∃ u ok, e = .returned (.tuple #[u, .bool ok]) ∧ Keeps w w' ∧ (ok = true → ∃ gs, GoalL w' u gs ∧ Prem G c gs) ∧ (ok = false → Left4 G t) := by
 have hOk := hG t hm
 have hwt := wts_mem hm
 obtain ⟨hoa, hob⟩ := OkF.imp (ht ▸ hOk)
 have hab := wt_imp a b
 rw [← ht] at hab
 have hla := len_le_wt a
 have hlb := len_le_wt b
 obtain ⟨b0, off, na, ca, rfl, h0, h1, h2, h3, hk, _⟩ := hva.root
 obtain ⟨pb, nb, cb, rfl⟩ := hvb.shape
 have kA := (Keeps.refl w).alloc (.cells #[.slice p n q, .string s] 144)
 have kD := kA.drew
 have pa : (w.alloc (.cells #[.slice p n q, .string s] 144)).cell? ⟨w.heap.size, 0, none⟩ = some (.slice p n q) := by simp
 have pb' : (w.alloc (.cells #[.slice p n q, .string s] 144)).cell? ⟨w.heap.size, 1, none⟩ = some (.string s) := by simp
 have qa : (w.alloc (.cells #[.slice p n q, .string s] 144)).drew.cell? ⟨w.heap.size, 0, none⟩ = some (.slice p n q) := by show (w.alloc _).cell? _ = _; simp
 have qb : (w.alloc (.cells #[.slice p n q, .string s] 144)).drew.cell? ⟨w.heap.size, 1, none⟩ = some (.string s) := by show (w.alloc _).cell? _ = _; simp
 have HI := hid (fun (T : List Fm) (u : Value) (w2 : World) (k : Keeps w w2) (hu : Left w2 u T) (hT : OkL T) (hl2 : wts T ≤ 50000000) => instead_any G T t x hx hm p n q s u w2 (hv.keeps k) hu hG hT (by omega))
 have HTb := hid (fun w2 (k : Keeps w w2) => text_any b hob.1 (by omega) _ w2 (hvb.keeps k))
 have HTa := hid (fun w2 (k : Keeps w w2) => text_any a hoa.1 (by omega) _ w2 (hva.keeps k))
 have HX := hid hx; have HV := hid hv; have HVA := hid hva; have HVB := hid hvb
 clear hv hx hla hlb hva hvb
 have q0 := And.intro qa qb
 cases a with
 | var i =>
  obtain ⟨ss, hss, htx⟩ := HV.out
  have HCt := hid (fun (sa : ByteArray) (h : bts sa = (Fm.var i).body) (w2 : World) (k : Keeps w w2) => containsF_any ss G htx (fun a ha => (hG a ha).1) sa (Fm.var i) h hoa.1 _ w2 (hss.keeps k))
  clear hss htx
  replace hk := kA.cell (show w.cell? ⟨b0, off, none⟩ = some (.int .i64 0) from hk)
  go_enter Tryz.func235, Tryz.ntmps235
  go_wp2_with fail
  go_region_held3 (fun w' => w'.cell? ⟨w.heap.size, 0, none⟩ = some (.slice p n q) ∧ w'.cell? ⟨w.heap.size, 1, none⟩ = some (.string s)) (first | exact q0 | exact q2 | exact cells_alloc _ q2 | exact q3 | exact cells_alloc _ q3 | exact q4 | exact cells_alloc _ q4) (first
   | (go_at_call 76; first
     | ((with_reducible refine (HTb.out _ kD).mono ?_); rintro e w2 ⟨sb, rfl, hsb, k2⟩; have q2 := cells_keeps k2 q0)
     | ((with_reducible refine (HTa.out _ (((kD.trans k2).alloc _).trans k3)).mono ?_); rintro e w4 ⟨sa, rfl, hsa, k4⟩; have q4 := cells_keeps k4 q3; have k34 := (((kD.trans k2).alloc (.cells #[.string sb] 9)).trans k3).trans k4)
     | ((with_reducible refine (HTa.out _ (((((kD.trans k2).alloc _).trans k3).alloc _))).mono ?_); rintro e w4 ⟨sa, rfl, hsa, k4⟩; have q4 := cells_keeps k4 (cells_alloc _ q3); have k34 := ((((kD.trans k2).alloc (.cells #[.string sb] 9)).trans k3).alloc _).trans k4))
   | (go_at_call 234; refine (HI.out [b] _ _ ((kD.trans k2).alloc _) (Left.lit1 w2 hsb) (okL_one hob) (by simp only [wts]; omega)).mono ?_; rintro e w3 ⟨p3, n3, c3, R, rfl, hR, hmem, hwR, k3⟩; have q3 := cells_keeps k3 (cells_alloc _ q2))
   | (go_at_call 217; first
     | ((with_reducible refine (HCt.out sa hsa _ k34).mono ?_); rintro e w5 ⟨rfl, rfl⟩)
     | ((with_reducible refine (HCt.out sa hsa _ (k34.alloc _)).mono ?_); rintro e w5 ⟨rfl, rfl⟩)))
  all_goals
   go_wp2
   go_ret2
   first
   | exact ⟨_, _, rfl, k34, fun h => ⟨_, (GoalL.lit1 hR hs).keeps k4, prem_var hG hc hm hmem hwR ht rfl hob (of_decide_eq_true h)⟩, fun h => .inr (.inr (.inl ⟨_, _, ht, of_decide_eq_false h⟩))⟩
   | exact ⟨_, _, rfl, k34.alloc _, fun h => ⟨_, GoalL.lit1 (hR.keeps k4) hs, prem_var hG hc hm hmem hwR ht rfl hob (of_decide_eq_true h)⟩, fun h => .inr (.inr (.inl ⟨_, _, ht, of_decide_eq_false h⟩))⟩
 | fls =>
  replace hk := kA.cell (show w.cell? ⟨b0, off, none⟩ = some (.int .i64 1) from hk)
  go_enter Tryz.func235, Tryz.ntmps235
  go_wp2_with fail
  refine (HI.out [] _ _ kA (Left.nil _) okL_nil (by simp [wts])).mono ?_; rintro e w2 ⟨p2, n2, q2, R, rfl, hR, hmem, hwR, k2⟩
  go_wp2_with fail
  go_ret2
  exact ⟨_, true, rfl, (kA.trans k2).alloc _, fun _ => ⟨_, GoalL.lit1 hR hs, prem_fls hG hc hm hwR ht rfl hmem⟩, fun h => by cases h⟩
 | imp a1 a2 =>
  replace hk := kA.cell (show w.cell? ⟨b0, off, none⟩ = some (.int .i64 4) from hk)
  go_enter Tryz.func235, Tryz.ntmps235
  go_wp2_with fail
  go_ret2
  exact ⟨_, false, rfl, kA, (fun h => by cases h), fun _ => .inr (.inr (.inr ⟨_, _, _, ht⟩))⟩
 | box a1 => exact absurd hoa.2 (by simp [Fm.plain])
 | dia a1 => exact absurd hoa.2 (by simp [Fm.plain])
 | and a1 a2 => exact implied_and G c a1 a2 b t x s ht HX.out hs hm hG hc hl p n q _ _ w HV.out HVA.out HVB.out
 | or a1 a2 => exact implied_or G c a1 a2 b t x s ht HX.out hs hm hG hc hl p n q _ _ w HV.out HVA.out HVB.out
end Go.Proofs.YtfmmajgkjkmghaaGreat
namespace Go.Proofs.YtfmmajgkjkmghaaGreat
open Go.RowKit
set_option maxRecDepth 20000 in
set_option maxHeartbeats 2000000 in
theorem taken_any (G : List Fm) (c t : Fm) (x s : ByteArray) (hx : bts x = t.body) (hs : bts s = c.body) (hm : t ∈ G) (hG : OkL G) (hc : OkF c) (hl : wts G + wt c ≤ 50000000)
  (p : Option Addr) (n q : Nat) (va : Value) (w : World) (hv : Left w (.slice p n q) G) (hva : Nds w va t.enc) :
  Calls Tryz.prog 223 #[.agg #[.slice p n q, .string s], .string x, va] w fun e w' => ∃ u ok, e = .returned (.tuple #[u, .bool ok]) ∧ Keeps w w' ∧ (ok = true → ∃ gs, GoalL w' u gs ∧ Prem G c gs) ∧ (ok = false → Left4 G t) := by
 have hOk := hG t hm
 have hwt := wts_mem hm
 have hlt := len_le_wt t
 obtain ⟨b0, off, na, ca, rfl, h0, h1, h2, h3, hk, _⟩ := hva.root
 have kA := (Keeps.refl w).alloc (.cells #[.slice p n q, .string s] 144)
 have pa : (w.alloc (.cells #[.slice p n q, .string s] 144)).cell? ⟨w.heap.size, 0, none⟩ = some (.slice p n q) := by simp
 have pb' : (w.alloc (.cells #[.slice p n q, .string s] 144)).cell? ⟨w.heap.size, 1, none⟩ = some (.string s) := by simp
 have q0 := And.intro pa pb'
 have HI := hid (fun (T : List Fm) (u : Value) (w2 : World) (k : Keeps w w2) (hu : Left w2 u T) (hT : OkL T) (hl2 : wts T ≤ 50000000) => instead_any G T t x hx hm p n q s u w2 (hv.keeps k) hu hG hT (by omega))
 have HPT := hid (partTexts_any t hOk.1 (by omega) _ _ (hva.keeps kA))
 have HX := hid hx; have HV := hid hv; have HVA := hid hva
 clear hv hx hva
 cases t with
 | var i =>
  replace hk := kA.cell (show w.cell? ⟨b0, off, none⟩ = some (.int .i64 0) from hk)
  go_enter Tryz.func223, Tryz.ntmps223
  go_wp2_with fail
  refine HPT.out.mono ?_; rintro e w2 ⟨u, ss, rfl, hss, htx, k2⟩
  replace hk := k2.cell hk
  go_wp2_with fail
  go_ret2
  exact ⟨_, false, rfl, kA.trans k2, (fun h => by cases h), (fun _ => .inr (.inl ⟨_, rfl⟩))⟩
 | fls =>
  replace hk := kA.cell (show w.cell? ⟨b0, off, none⟩ = some (.int .i64 1) from hk)
  go_enter Tryz.func223, Tryz.ntmps223
  go_wp2_with fail
  refine HPT.out.mono ?_; rintro e w2 ⟨u, ss, rfl, hss, htx, k2⟩
  replace hk := k2.cell hk
  go_wp2_with fail
  go_ret2
  exact ⟨_, false, rfl, kA.trans k2, (fun h => by cases h), (fun _ => .inl rfl)⟩
 | box a1 => exact absurd hOk.2 (by simp [Fm.plain])
 | dia a1 => exact absurd hOk.2 (by simp [Fm.plain])
 | and a1 a2 =>
  obtain ⟨ho1, ho2⟩ := OkF.and hOk
  have hwT : wts [a1, a2] ≤ 50000000 := by have := wt_and a1 a2; simp only [wts]; omega
  replace hk := kA.cell (show w.cell? ⟨b0, off, none⟩ = some (.int .i64 2) from hk)
  go_enter Tryz.func223, Tryz.ntmps223
  go_wp2_with fail
  refine HPT.out.mono ?_; rintro e w2 ⟨u, ss, rfl, hss, htx, k2⟩
  have hleft : Left w2 u [a1, a2] := hss.left htx (by simp)
  obtain ⟨p2, n2, c2, rfl⟩ := hleft.shape
  replace hk := k2.cell hk
  obtain ⟨hq1, hq2⟩ := cells_keeps k2 q0
  have HLf := hid hleft; clear hleft hss htx
  go_wp2_with fail
  refine (HI.out [a1, a2] _ _ (kA.trans k2) HLf.out (okL_two ho1 ho2) hwT).mono ?_; rintro e w3 ⟨p3, n3, c3, R, rfl, hR, hmem, hwR, k3⟩
  go_wp2_with fail
  go_ret2
  exact ⟨_, true, rfl, ((kA.trans k2).trans k3).alloc _, (fun _ => ⟨_, GoalL.lit1 hR hs, prem_and hG hc hm hmem hwR rfl rfl ho1 ho2⟩), (fun h => by cases h)⟩
 | or a1 a2 =>
  obtain ⟨ho1, ho2⟩ := OkF.or hOk
  have hw0 := wt_or a1 a2
  have hwT1 : wts [a1] ≤ 50000000 := by simp only [wts]; omega
  have hwT2 : wts [a2] ≤ 50000000 := by simp only [wts]; omega
  replace hk := kA.cell (show w.cell? ⟨b0, off, none⟩ = some (.int .i64 3) from hk)
  go_enter Tryz.func223, Tryz.ntmps223
  go_wp2_with fail
  refine HPT.out.mono ?_; rintro e w2 ⟨u, ss, rfl, hss, htx, k2⟩
  have hln : ss.length = 2 := by rw [htx.length]; rfl
  have hst := hss.strs (by omega)
  obtain ⟨p2, c2, rfl, hcap, hcm, _, _⟩ := hst.at
  obtain ⟨b2, o2, rfl, hc1⟩ := hst.get 0 (by omega)
  obtain ⟨b3, o3, e, hc2⟩ := hst.get 1 (by omega)
  cases e
  have hs1 : bts ss[0] = a1.body := htx.get 0 (by omega) (by simp [partsL])
  have hs2 : bts ss[1] = a2.body := htx.get 1 (by omega) (by simp [partsL])
  unfold maxLen at hcm
  rw [hln] at hcap ⊢
  rw [Nat.add_zero] at hc1
  generalize ss[0] = s1 at *
  generalize ss[1] = s2 at *
  clear hst hss htx
  replace hk := k2.cell hk
  have q2 := And.intro (cells_keeps k2 q0) (And.intro hc1 hc2)
  obtain ⟨hq1, hq2⟩ := q2.1
  have kw := kA.trans k2
  have qd := hid (cells4_keeps ((Keeps.refl w2).drew) q2)
  have qg := hid (fun o => cells4_keeps ((Keeps.refl (w2.alloc o)).drew) (cells4_alloc o q2))
  have qg2 := hid (fun o o' => cells4_keeps ((Keeps.refl ((w2.alloc o).alloc o')).drew) (cells4_alloc o' (cells4_alloc o q2)))
  have L1A := hid ((Left.lit1 w2 hs1).keeps ((Keeps.refl _).drew))
  have L1B := hid (((Left.lit1 w2 hs1).keeps ((Keeps.refl _).alloc (.cells #[.string s2] 9))).keeps ((Keeps.refl _).drew))
  have L2B := hid ((Left.lit1N (N := w2.heap.size + 1) (w2.alloc (.cells #[.string s1] 9)) (by simp) hs2).keeps ((Keeps.refl _).drew))
  have L2C := hid (((Left.lit1 w2 hs2).keeps ((Keeps.refl _).alloc (.cells #[.string s1] 9))).keeps ((Keeps.refl _).drew))
  have L1C := hid ((Left.lit1N (N := w2.heap.size + 1) (w2.alloc (.cells #[.string s2] 9)) (by simp) hs1).keeps ((Keeps.refl _).drew))
  clear q2
  go_wp2_with fail
  go_region_held3 (fun w' => (w'.cell? ⟨w.heap.size, 0, none⟩ = some (.slice p n q) ∧ w'.cell? ⟨w.heap.size, 1, none⟩ = some (.string s)) ∧ (w'.cell? ⟨b2, o2, none⟩ = some (.string s1) ∧ w'.cell? ⟨b2, o2 + 1, none⟩ = some (.string s2))) (first | exact qd.out | exact qg.out _ | exact qg2.out _ _ | exact q3 | exact cells4_alloc _ q3 | exact q4 | exact cells4_alloc _ q4) (first
   | (go_at_call 234; first
     | ((with_reducible refine (HI.out [a1] _ _ (kw.alloc _).drew L1A.out (okL_one ho1) hwT1).mono ?_); rintro e w3 ⟨p3, n3, c3, R, rfl, hR, hmem, hwR, k3⟩; have q3 := cells4_keeps k3 (qg.out _); have k03 := (kw.alloc (.cells #[.string s1] 9)).drew.trans k3)
     | ((with_reducible refine (HI.out [a1] _ _ ((kw.alloc _).alloc _).drew L1B.out (okL_one ho1) hwT1).mono ?_); rintro e w3 ⟨p3, n3, c3, R, rfl, hR, hmem, hwR, k3⟩; have q3 := cells4_keeps k3 (qg2.out _ _); have k03 := ((kw.alloc (.cells #[.string s1] 9)).alloc (.cells #[.string s2] 9)).drew.trans k3; have hX := L2B.out.keeps k3)
     | ((with_reducible refine (HI.out [a1] _ _ ((kw.alloc _).alloc _).drew L1C.out (okL_one ho1) hwT1).mono ?_); rintro e w3 ⟨p3, n3, c3, R, rfl, hR, hmem, hwR, k3⟩; have q3 := cells4_keeps k3 (qg2.out _ _); have k03 := ((kw.alloc (.cells #[.string s2] 9)).alloc (.cells #[.string s1] 9)).drew.trans k3; have hX := L2C.out.keeps k3)
     | ((with_reducible refine (HI.out [a2] _ _ k03 hX (okL_one ho2) hwT2).mono ?_); rintro e w4 ⟨p4, n4, c4, R', rfl, hR', hmem', hwR', k4⟩; have q4 := cells4_keeps k4 q3; have k04 := k03.trans k4; have kk := k4)
     | ((with_reducible refine (HI.out [a2] _ _ (k03.alloc _) (Left.lit1 w3 hs2) (okL_one ho2) hwT2).mono ?_); rintro e w4 ⟨p4, n4, c4, R', rfl, hR', hmem', hwR', k4⟩; have q4 := cells4_keeps k4 (cells4_alloc _ q3); have k04 := (k03.alloc _).trans k4; have kk := ((Keeps.refl w3).alloc _).trans k4)))
  all_goals
   go_wp2
   go_ret2
   exact ⟨_, true, rfl, k04.alloc _, (fun _ => ⟨_, GoalL.lit2 (hR.keeps kk) hs hR' hs, prem_or hG hc hm rfl ho1 ho2 hmem hwR hmem' hwR'⟩), (fun h => by cases h)⟩
 | imp a1 a2 =>
  replace hk := kA.cell (show w.cell? ⟨b0, off, none⟩ = some (.int .i64 4) from hk)
  go_enter Tryz.func223, Tryz.ntmps223
  go_wp2_with fail
  refine HPT.out.mono ?_; rintro e w2 ⟨u, ss, rfl, hss, htx, k2⟩
  obtain ⟨p2, c2, rfl, _⟩ := At.of_own hss
  clear hss htx
  replace hk := k2.cell hk
  have q2 := cells_keeps k2 q0
  obtain ⟨hq1, hq2⟩ := q2
  have qd : w2.drew.cell? ⟨w.heap.size, 0, none⟩ = some (.slice p n q) ∧ w2.drew.cell? ⟨w.heap.size, 1, none⟩ = some (.string s) := ⟨hq1, hq2⟩
  have kW := (kA.trans k2).drew
  have HF := hid (first_any _ _ a1 a2.enc _ _ (HVA.out.keeps kW) rfl)
  have HS := hid (second_any _ _ a1 a2 _ _ (HVA.out.keeps kW) rfl)
  have HIm := hid (fun v1 v2 (g1 : Nds w2.drew v1 a1.enc) (g2 : Nds w2.drew v2 a2.enc) => implied_any G c a1 a2 _ x s rfl HX.out hs hm hG hc hl p n q v1 v2 w2.drew (HV.out.keeps kW) g1 g2)
  go_wp2_with fail
  go_region_held3 (fun w' => w'.cell? ⟨w.heap.size, 0, none⟩ = some (.slice p n q) ∧ w'.cell? ⟨w.heap.size, 1, none⟩ = some (.string s)) (first | exact qd | exact q3) (first
   | (go_at_call 155; refine HF.out.mono ?_; rintro e w' ⟨v1, rfl, hv1, rfl⟩)
   | (go_at_call 157; refine HS.out.mono ?_; rintro e w' ⟨v2, rfl, hv2, rfl⟩)
   | (go_at_call 235; refine (HIm.out v1 v2 hv1 hv2).mono ?_; rintro e w3 ⟨u3, ok, rfl, k3, hok, hno⟩; have q3 := cells_keeps k3 qd; replace hok := hid hok; replace hno := hid hno))
  go_wp2
  go_ret2
  exact ⟨_, _, rfl, kW.trans k3, hok.out, hno.out⟩
end Go.Proofs.YtfmmajgkjkmghaaGreat
