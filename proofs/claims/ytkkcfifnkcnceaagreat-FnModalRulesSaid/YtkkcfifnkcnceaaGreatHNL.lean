/- The reference's types: what one makes true, any formula. -/
import Derived.Test.YtkkcfifnkcnceaaGreatHHL
namespace Go.Proofs.YtkkcfifnkcnceaaGreat
open Go.RowKit
set_option maxRecDepth 20000 in
set_option maxHeartbeats 4000000 in
theorem l12True_any (E : List Fm) (ss : List ByteArray) (hT : Txts ss E) (hw : ∀ t ∈ E, t.wf) (h8 : E.length ≤ 8) (m : Nat) (hm : m < 256) (r : Nat) (pv : Value) (t : Fm) :
  ∀ (v : Value) (w : World), t.wf → t.enc.length ≤ 100000000 → (∀ x ∈ subs t, isEl x = true → x ∈ E) → Nds w v t.enc → w.cell? ⟨r, 1, none⟩ = some pv → Strs w pv ss →
  Calls Tryz.prog 120 #[.pointer (some ⟨r, 0, none⟩), .int .i64 m, v] w fun e w' => e = .returned (.bool (valB E m t)) ∧ Keeps w w' := by
 induction t with
 | var i => intro v w hwt hl hs hv hc hp; exact l12True_el E ss hT hw h8 m hm (.var i) hwt hl (.inl rfl) (hs _ (subs_self _) rfl) v w r pv hv hc hp
 | box a _ => intro v w hwt hl hs hv hc hp; exact l12True_el E ss hT hw h8 m hm (.box a) hwt hl (.inr (.inl rfl)) (hs _ (subs_self _) rfl) v w r pv hv hc hp
 | dia a _ => intro v w hwt hl hs hv hc hp; exact l12True_el E ss hT hw h8 m hm (.dia a) hwt hl (.inr (.inr rfl)) (hs _ (subs_self _) rfl) v w r pv hv hc hp
 | fls =>
  intro v w hwt hl hs hv hc1 hp
  obtain ⟨b, off, n, cap, rfl, h0, h1, h2, h3, hc, -⟩ := hv.root
  rw [show Fm.fls.kind = 1 from rfl] at hc
  unfold maxLen at h2
  clear hs hp hv hc1
  go_enter Tryz.func120, Tryz.ntmps120
  go_wp2_with fail
  go_ret
  exact ⟨rfl, Keeps.refl _⟩
 | and x y ihx ihy =>
  intro v w hwt hl hs hv hc1 hp
  have hlx : x.enc.length ≤ 100000000 ∧ y.enc.length ≤ 100000000 := by simp [Fm.enc] at hl; omega
  have HX := hid (fun vz wz (kz : Keeps w wz) (hz : Nds wz vz x.enc) => ihx vz wz hwt.1 hlx.1 (fun a ha => hs a (by simp [subs, ha])) hz (kz.cell hc1) (hp.keeps kz))
  have HY := hid (fun vz wz (kz : Keeps w wz) (hz : Nds wz vz y.enc) => ihy vz wz hwt.2 hlx.2 (fun a ha => hs a (by simp [subs, ha])) hz (kz.cell hc1) (hp.keeps kz))
  have hv0 := hv
  obtain ⟨b, off, n, cap, rfl, h0, h1, h2, h3, hc, -⟩ := hv.root
  rw [show (Fm.and x y).kind = 2 from rfl] at hc
  unfold maxLen at h2
  clear hs hp hv hc1 ihx ihy hl hlx hwt
  go_enter Tryz.func120, Tryz.ntmps120
  go_wp2_with fail
  refine (l02Left_any _ _ x y.enc _ _ hv0 rfl).mono ?_; rintro e w' ⟨v1, rfl, hv1, rfl⟩
  go_wp2_with fail
  refine (HX.out v1 _ (Keeps.refl _) hv1).mono ?_; rintro e w2 ⟨rfl, k2⟩
  cases hbx : valB E m x
  ·go_wp2_with fail
   go_ret
   exact ⟨ret_bool (by simp [valB, hbx]), k2⟩
  ·go_wp2_with fail
   refine (l02Right_any _ _ x y _ _ (hv0.keeps k2) rfl).mono ?_; rintro e w' ⟨v3, rfl, hv3, rfl⟩
   go_wp2_with fail
   refine (HY.out v3 _ k2 hv3).mono ?_; rintro e w4 ⟨rfl, k4⟩
   go_wp2_with fail
   go_ret
   exact ⟨ret_bool (by simp [valB, hbx]), k2.trans k4⟩
 | or x y ihx ihy =>
  intro v w hwt hl hs hv hc1 hp
  have hlx : x.enc.length ≤ 100000000 ∧ y.enc.length ≤ 100000000 := by simp [Fm.enc] at hl; omega
  have HX := hid (fun vz wz (kz : Keeps w wz) (hz : Nds wz vz x.enc) => ihx vz wz hwt.1 hlx.1 (fun a ha => hs a (by simp [subs, ha])) hz (kz.cell hc1) (hp.keeps kz))
  have HY := hid (fun vz wz (kz : Keeps w wz) (hz : Nds wz vz y.enc) => ihy vz wz hwt.2 hlx.2 (fun a ha => hs a (by simp [subs, ha])) hz (kz.cell hc1) (hp.keeps kz))
  have hv0 := hv
  obtain ⟨b, off, n, cap, rfl, h0, h1, h2, h3, hc, -⟩ := hv.root
  rw [show (Fm.or x y).kind = 3 from rfl] at hc
  unfold maxLen at h2
  clear hs hp hv hc1 ihx ihy hl hlx hwt
  go_enter Tryz.func120, Tryz.ntmps120
  go_wp2_with fail
  refine (l02Left_any _ _ x y.enc _ _ hv0 rfl).mono ?_; rintro e w' ⟨v1, rfl, hv1, rfl⟩
  go_wp2_with fail
  refine (HX.out v1 _ (Keeps.refl _) hv1).mono ?_; rintro e w2 ⟨rfl, k2⟩
  cases hbx : valB E m x
  ·go_wp2_with fail
   refine (l02Right_any _ _ x y _ _ (hv0.keeps k2) rfl).mono ?_; rintro e w' ⟨v3, rfl, hv3, rfl⟩
   go_wp2_with fail
   refine (HY.out v3 _ k2 hv3).mono ?_; rintro e w4 ⟨rfl, k4⟩
   go_wp2_with fail
   go_ret
   exact ⟨ret_bool (by simp [valB, hbx]), k2.trans k4⟩
  ·go_wp2_with fail
   go_ret
   exact ⟨ret_bool (by simp [valB, hbx]), k2⟩
 | imp x y ihx ihy =>
  intro v w hwt hl hs hv hc1 hp
  have hlx : x.enc.length ≤ 100000000 ∧ y.enc.length ≤ 100000000 := by simp [Fm.enc] at hl; omega
  have HX := hid (fun vz wz (kz : Keeps w wz) (hz : Nds wz vz x.enc) => ihx vz wz hwt.1 hlx.1 (fun a ha => hs a (by simp [subs, ha])) hz (kz.cell hc1) (hp.keeps kz))
  have HY := hid (fun vz wz (kz : Keeps w wz) (hz : Nds wz vz y.enc) => ihy vz wz hwt.2 hlx.2 (fun a ha => hs a (by simp [subs, ha])) hz (kz.cell hc1) (hp.keeps kz))
  have hv0 := hv
  obtain ⟨b, off, n, cap, rfl, h0, h1, h2, h3, hc, -⟩ := hv.root
  rw [show (Fm.imp x y).kind = 4 from rfl] at hc
  unfold maxLen at h2
  clear hs hp hv hc1 ihx ihy hl hlx hwt
  go_enter Tryz.func120, Tryz.ntmps120
  go_wp2_with fail
  refine (l02Left_any _ _ x y.enc _ _ hv0 rfl).mono ?_; rintro e w' ⟨v1, rfl, hv1, rfl⟩
  go_wp2_with fail
  refine (HX.out v1 _ (Keeps.refl _) hv1).mono ?_; rintro e w2 ⟨rfl, k2⟩
  cases hbx : valB E m x
  ·go_wp2_with fail
   go_ret
   exact ⟨ret_bool (by simp [valB, hbx]), k2⟩
  ·go_wp2_with fail
   refine (l02Right_any _ _ x y _ _ (hv0.keeps k2) rfl).mono ?_; rintro e w' ⟨v3, rfl, hv3, rfl⟩
   go_wp2_with fail
   refine (HY.out v3 _ k2 hv3).mono ?_; rintro e w4 ⟨rfl, k4⟩
   go_wp2_with fail
   go_ret
   exact ⟨ret_bool (by simp [valB, hbx]), k2.trans k4⟩
end Go.Proofs.YtkkcfifnkcnceaaGreat
