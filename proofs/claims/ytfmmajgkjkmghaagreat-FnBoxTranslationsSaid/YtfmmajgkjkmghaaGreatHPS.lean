import Derived.Test.YtfmmajgkjkmghaaGreatHK8
import Derived.Test.YtfmmajgkjkmghaaGreatHK1
import Derived.Test.YtfmmajgkjkmghaaGreatHM3
import Derived.Test.YtfmmajgkjkmghaaGreatHP3
import Derived.Test.YtfmmajgkjkmghaaGreatHJB
/- The law of the outer box translation. -/
namespace Go.Proofs.YtfmmajgkjkmghaaGreat
open Go.RowKit
set_option maxRecDepth 20000 in
set_option maxHeartbeats 400000 in
theorem transOuterBox_ok (t : Fm) (hp : t.plain = true) (hl : t.enc.length ≤ 1048576) (h : plainErr t.enc = 0) (v : Value) (w : World) (hv : Nds w v t.enc) :
  Calls Tryz.prog 36 #[.agg #[.func (.func 61) #[] #[], .func (.func 62) #[] #[]], v] w fun e w' => ∃ u, e = .returned (.tuple #[u, .int .i64 (madeL (outr t).enc).2]) ∧ OwnN w' w.heap.size u (madeL (outr t).enc).1 ∧ Keeps w w' := by
 obtain ⟨p, n, cap, rfl⟩ := hv.shape
 have kA := (Keeps.refl w).alloc (.cells #[.func (.func 61) #[] #[], .func (.func 62) #[] #[]] 58)
 have hsz : (w.alloc (.cells #[.func (.func 61) #[] #[], .func (.func 62) #[] #[]] 58)).heap.size = w.heap.size + 1 := by simp
 have hne := plainCode_any [t.enc] _ _ (NdsL.lit1 (hv.keeps kA))
 rw [plainErrs_one, h, hsz] at hne
 have HN := hid hne; clear hne h hsz
 have k1 := kA.alloc (.cells #[.slice p n cap] 24)
 have bx := outr_len t
 go_enter Tryz.func36, Tryz.ntmps36
 go_wp2_with fail
 refine HN.out.mono ?_; rintro e w2 ⟨rfl, k2⟩
 have k2' := k1.trans k2
 have kB : Keeps (w.alloc (.cells #[.func (.func 61) #[] #[], .func (.func 62) #[] #[]] 58)) ((w.alloc (.cells #[.func (.func 61) #[] #[], .func (.func 62) #[] #[]] 58)).alloc (.cells #[.slice p n cap] 24)) := (Keeps.refl _).alloc _
 have f0 : w2.cell? ⟨w.heap.size, 0, none⟩ = some (.func (.func 61) #[] #[]) := k2.cell ((kB).cell (by simp))
 have f1 : w2.cell? ⟨w.heap.size, 1, none⟩ = some (.func (.func 62) #[] #[]) := k2.cell ((kB).cell (by simp))
 clear kB
 go_wp2_with fail
 refine (ofOuterBox_any t hp _ _ (hv.keeps k2') hl).mono ?_; rintro e w3 ⟨v3, rfl, hv3, k3⟩
 go_wp2_with fail
 refine (limited_own (outr t).enc _ _ _ hv3 (by omega)).mono ?_; rintro e w' ⟨u, rfl, hu, rfl⟩
 go_wp2_with fail
 go_ret2
 exact ⟨_, rfl, hu.mono k2'.size, k2'.trans k3⟩
set_option maxRecDepth 20000 in
set_option maxHeartbeats 400000 in
theorem transOuterBox_err (a : List Nd) (h : plainErr a ≠ 0) (v : Value) (w : World) (hv : Nds w v a) :
  Calls Tryz.prog 36 #[.agg #[.func (.func 61) #[] #[], .func (.func 62) #[] #[]], v] w fun e w' => ∃ u, e = .returned (.tuple #[u, .int .i64 (plainErr a)]) ∧ OwnN w' w.heap.size u [] ∧ Keeps w w' := by
 obtain ⟨p, n, cap, rfl⟩ := hv.shape
 have kA := (Keeps.refl w).alloc (.cells #[.func (.func 61) #[] #[], .func (.func 62) #[] #[]] 58)
 have hsz : (w.alloc (.cells #[.func (.func 61) #[] #[], .func (.func 62) #[] #[]] 58)).heap.size = w.heap.size + 1 := by simp
 have hne := plainCode_any [a] _ _ (NdsL.lit1 (hv.keeps kA))
 rw [plainErrs_one, hsz] at hne
 have h' : (plainErr a != 0) = true := by simp [h]
 have H := hid h; clear h
 have HN := hid hne; clear hne hsz
 have k1 := kA.alloc (.cells #[.slice p n cap] 24)
 go_enter Tryz.func36, Tryz.ntmps36
 go_wp2_with (go_at_call 72; refine HN.out.mono ?_; rintro e w2 ⟨rfl, k2⟩)
 go_ret2
 exact ⟨_, rfl, OwnN.nil _ _, k1.trans k2⟩
end Go.Proofs.YtfmmajgkjkmghaaGreat
namespace Go.Proofs.YtfmmajgkjkmghaaGreat
open Go.RowKit
end Go.Proofs.YtfmmajgkjkmghaaGreat
namespace Go.Proofs.YtfmmajgkjkmghaaGreat
open Go.RowKit
end Go.Proofs.YtfmmajgkjkmghaaGreat
namespace Go.Proofs.YtfmmajgkjkmghaaGreat
open Fm
theorem enc_split : ∀ (a b : Fm) (r s : List Nd), a.enc ++ r = b.enc ++ s → a = b ∧ r = s := by
 intro a
 induction a with
 | var v =>
  intro b r s h; cases b <;> simp [enc] at h
  obtain ⟨h1, h2⟩ := h
  have h3 := Int.ofNat.inj h1
  exact ⟨by rw [h3], h2⟩
 | fls => intro b r s h; cases b <;> simp [enc] at h <;> simp_all
 | and x y ihx ihy =>
  intro b r s h; cases b <;> simp [enc] at h
  obtain ⟨h1, h⟩ := ihx _ _ _ h
  obtain ⟨h2, h⟩ := ihy _ _ _ h
  exact ⟨by rw [h1, h2], h⟩
 | or x y ihx ihy =>
  intro b r s h; cases b <;> simp [enc] at h
  obtain ⟨h1, h⟩ := ihx _ _ _ h
  obtain ⟨h2, h⟩ := ihy _ _ _ h
  exact ⟨by rw [h1, h2], h⟩
 | imp x y ihx ihy =>
  intro b r s h; cases b <;> simp [enc] at h
  obtain ⟨h1, h⟩ := ihx _ _ _ h
  obtain ⟨h2, h⟩ := ihy _ _ _ h
  exact ⟨by rw [h1, h2], h⟩
 | box x ihx =>
  intro b r s h; cases b <;> simp [enc] at h
  obtain ⟨h1, h⟩ := ihx _ _ _ h
  exact ⟨by rw [h1], h⟩
 | dia x ihx =>
  intro b r s h; cases b <;> simp [enc] at h
  obtain ⟨h1, h⟩ := ihx _ _ _ h
  exact ⟨by rw [h1], h⟩
theorem enc_inj {a b : Fm} (h : a.enc = b.enc) : a = b := (enc_split a b [] [] (by simpa using h)).1
end Go.Proofs.YtfmmajgkjkmghaaGreat
