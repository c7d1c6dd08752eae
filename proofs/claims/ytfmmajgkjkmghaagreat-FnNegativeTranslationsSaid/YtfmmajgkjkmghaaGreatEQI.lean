import Derived.Test.YtfmmajgkjkmghaaGreatEK3
import Derived.Test.YtfmmajgkjkmghaaGreatEPS
import Derived.Test.YtfmmajgkjkmghaaGreatEP6
import Derived.Test.YtfmmajgkjkmghaaGreatESM1
import Derived.Test.YtfmmajgkjkmghaaGreatEQG
import Derived.Test.YtfmmajgkjkmghaaGreatEPD
/- The translations and questions of translations on the program's side alone. -/
namespace Go.Proofs.YtfmmajgkjkmghaaGreat
open Go.RowKit
def TrI (F : Fm → Fm) (I : FuncId) (a : List Nd) : Prop := ∃ r c, r.length ≤ 40 ∧ TrIs F a r c ∧ ∀ v w, Nds w v a → Calls Tryz.prog I #[v] w fun e w' => ∃ u, e = .returned (.tuple #[u, .int .i64 c]) ∧ OwnN w' w.heap.size u r ∧ Keeps w w'
def OneI (Q : Fm → Bool → Int → Prop) (I : FuncId) (a : List Nd) : Prop := ∃ b c, OneIs Q a b c ∧ ∀ v w, Nds w v a → Calls Tryz.prog I #[v] w fun e w' => e = .returned (.tuple #[.bool b, .int .i64 c]) ∧ Keeps w w'
set_option maxHeartbeats 1000000 in
theorem implKolmogorovOf_is (a : List Nd) : TrI kol 22 a := by
 by_cases h : plainErr a = 0
 ·obtain ⟨t, hw, rfl, hp, hl⟩ := plain_tree h
  have HT := hid (transKolmogorovOf_ok t hp (by omega) h)
  have H := hid h; clear h
  have bx := kol_len t
  refine ⟨(madeL (kol t).enc).1, (madeL (kol t).enc).2, madeL_len _, .inl ⟨t, hw, rfl, hp, hl, H.out, rfl, rfl⟩, fun v w hv => ?_⟩
  ·go_enter Tryz.func22, Tryz.ntmps22
   go_wp2_with fail
   refine (HT.out _ _ hv).mono ?_; rintro e w1 ⟨u, rfl, hu, k1⟩
   go_wp2_with fail
   go_ret2
   exact ⟨_, rfl, hu, k1⟩
 ·have HT := hid (transKolmogorovOf_err a h)
  have h' : (plainErr a != 0) = true := by simp [h]
  have H := hid h; clear h
  refine ⟨[], plainErr a, by simp, .inr ⟨H.out, rfl, rfl⟩, fun v w hv => ?_⟩
  ·go_enter Tryz.func22, Tryz.ntmps22
   go_wp2_with fail
   refine (HT.out _ _ hv).mono ?_; rintro e w1 ⟨u, rfl, hu, k1⟩
   go_wp2_with fail
   go_ret2
   exact ⟨_, rfl, hu, k1⟩
theorem implKurodaOf_is (a : List Nd) : TrI (fun t => t.not.not) 23 a := by
 have hne := fun (v : Value) (w : World) (hv : Nds w v a) => plainCode_any [a] _ _ (NdsL.lit1 hv)
 rw [plainErrs_one] at hne
 by_cases h : plainErr a = 0
 ·obtain ⟨t, hw, rfl, hp, hl⟩ := plain_tree h
  rw [h] at hne
  have H := hid h; clear h
  have HN := hid hne; clear hne
  have hnl := not_len t
  have hnl2 := not_len t.not
  refine ⟨(madeL t.not.not.enc).1, (madeL t.not.not.enc).2, madeL_len _, .inl ⟨t, hw, rfl, hp, hl, H.out, rfl, rfl⟩, fun v w hv => ?_⟩
  ·have Hnl := hid hnl; clear hnl
   have Hnl2 := hid hnl2; clear hnl2
   obtain ⟨p, n, cap, rfl⟩ := hv.shape
   have k1 := (Keeps.refl w).alloc (.cells #[.slice p n cap] 24)
   go_enter Tryz.func23, Tryz.ntmps23
   go_wp2_with fail
   refine (HN.out _ _ hv).mono ?_; rintro e w2 ⟨rfl, k2⟩
   have k2' := k1.trans k2
   go_wp2_with fail
   refine (doubleNegation_any t _ _ (hv.keeps k2') (by omega)).mono ?_; rintro e w3 ⟨v3, rfl, hv3, k3⟩
   go_wp2_with fail
   have hlen2 : t.not.not.enc.length ≤ 2147483648 := by have := Hnl.out; have := Hnl2.out; omega
   refine (limited_own t.not.not.enc _ _ _ hv3 hlen2).mono ?_; rintro e w' ⟨u, rfl, hu, rfl⟩
   go_wp2_with fail
   go_ret2
   exact ⟨_, rfl, hu.mono k2'.size, k2'.trans k3⟩
 ·have h' : (plainErr a != 0) = true := by simp [h]
  have H := hid h; clear h
  have HN := hid hne; clear hne
  refine ⟨[], plainErr a, by simp, .inr ⟨H.out, rfl, rfl⟩, fun v w hv => ?_⟩
  ·obtain ⟨p, n, cap, rfl⟩ := hv.shape
   have k1 := (Keeps.refl w).alloc (.cells #[.slice p n cap] 24)
   go_enter Tryz.func23, Tryz.ntmps23
   go_wp2_with (go_at_call 72; refine (HN.out _ _ hv).mono ?_; rintro e w2 ⟨rfl, k2⟩)
   go_ret2
   exact ⟨_, rfl, OwnN.nil _ _, k1.trans k2⟩
theorem implIsNegative_is (a : List Nd) : OneI (fun t b c => b = t.negative false ∧ c = 0) 28 a := by
 have hne := fun (v : Value) (w : World) (hv : Nds w v a) => plainCode_any [a] _ _ (NdsL.lit1 hv)
 rw [plainErrs_one] at hne
 by_cases h : plainErr a = 0
 ·obtain ⟨t, hw, rfl, hp, hl⟩ := plain_tree h
  rw [h] at hne
  have H := hid h; clear h
  have HN := hid hne; clear hne
  refine ⟨t.negative false, 0, .inl ⟨t, hw, rfl, hp, hl, H.out, rfl, rfl⟩, fun v w hv => ?_⟩
  ·obtain ⟨p, n, cap, rfl⟩ := hv.shape
   have k1 := (Keeps.refl w).alloc (.cells #[.slice p n cap] 24)
   go_enter Tryz.func28, Tryz.ntmps28
   go_wp2_with (first | (go_at_call 72; refine (HN.out _ _ hv).mono ?_; rintro e w2 ⟨rfl, k2⟩) | (go_at_call 79; refine (isNegative_any t false _ _ (hv.keeps (k1.trans k2)) hp).mono ?_; rintro e w' ⟨rfl, rfl⟩))
   go_ret2
   exact ⟨rfl, k1.trans k2⟩
 ·have h' : (plainErr a != 0) = true := by simp [h]
  have H := hid h; clear h
  have HN := hid hne; clear hne
  refine ⟨false, plainErr a, .inr ⟨H.out, rfl, rfl⟩, fun v w hv => ?_⟩
  ·obtain ⟨p, n, cap, rfl⟩ := hv.shape
   have k1 := (Keeps.refl w).alloc (.cells #[.slice p n cap] 24)
   go_enter Tryz.func28, Tryz.ntmps28
   go_wp2_with (go_at_call 72; refine (HN.out _ _ hv).mono ?_; rintro e w2 ⟨rfl, k2⟩)
   go_ret2
   exact ⟨rfl, k1.trans k2⟩
set_option maxRecDepth 20000 in
set_option maxHeartbeats 1000000 in
theorem implGlivenkoTheorem_is (a : List Nd) : OneI (fun t b c => b = smallB (t.enc.length + 4) [] t.not.not ∧ c = smallE (t.enc.length + 4)) 25 a := by
 by_cases h : plainErr a = 0
 ·obtain ⟨t, hw, rfl, hp, hl⟩ := plain_tree h
  refine ⟨smallB (t.enc.length + 4) [] t.not.not, smallE (t.enc.length + 4), .inl ⟨t, hw, rfl, hp, hl, h, rfl, rfl⟩, fun v w hv => ?_⟩
  have hok : OkF t := ⟨hw, hp⟩
  obtain ⟨p, n, cap, rfl⟩ := hv.shape
  have hne := plainCode_any [t.enc] _ _ (NdsL.lit1 hv)
  rw [plainErrs_one, h] at hne
  have HN := hid hne; clear hne h
  have k1 := (Keeps.refl w).alloc (.cells #[.slice p n cap] 24)
  have hlen := hid (show t.not.not.enc.length = t.enc.length + 4 by rw [not_len, not_len])
  by_cases hs : 20 < t.enc.length + 4
  ·rw [show smallB (t.enc.length + 4) [] t.not.not = false from by simp [smallB]; omega, show smallE (t.enc.length + 4) = 3 from by simp [smallE]; omega]
   have HD := hid (fun w2 (k : Keeps w w2) => doubleNegation_any t _ w2 (hv.keeps k) (by omega))
   go_enter Tryz.func25, Tryz.ntmps25
   go_wp2_with fail
   refine HN.out.mono ?_; rintro e w2 ⟨rfl, k2⟩
   go_wp2_with fail
   refine (HD.out w2 (k1.trans k2)).mono ?_; rintro e w3 ⟨v3, rfl, hv3, k3⟩
   have hn3 : Nds w3 v3 t.not.not.enc := hv3.nds (by rw [show (Fm.not (Fm.not t)).enc.length = _ from hlen.out]; omega)
   obtain ⟨p3, n3, c3, rfl⟩ := hn3.shape
   have hnn := hn3.lenIs
   have hbig : (20 : Int) < n3 := by rw [hnn, hlen.out]; omega
   clear hnn
   go_wp2_with fail
   go_ret2
   exact ⟨rfl, (k1.trans k2).trans k3⟩
  ·rw [show smallB (t.enc.length + 4) [] t.not.not = sqB [] t.not.not from by simp [smallB]; omega, show smallE (t.enc.length + 4) = 0 from by simp [smallE]; omega]
   have hwt : wts [] + wt t.not.not ≤ 50000000 := by
    have h1 := wt_le_pow t.not.not
    have h2 := pow20 (n := t.not.not.enc.length) (by rw [hlen.out]; omega)
    simp only [wts]; omega
   have HD := hid (fun w2 (k : Keeps w w2) => doubleNegation_any t _ w2 (hv.keeps k) (by omega))
   have HT := hid (fun v w2 (hv : Nds w2 v t.not.not.enc) => text_any t.not.not hok.not.not.1 (by rw [hlen.out]; omega) v w2 hv)
   have HP := hid (fun s (hs : bts s = t.not.not.body) w2 => provable_any [] t.not.not okL_nil hok.not.not hwt s (.slice none 0 0) w2 (Left.nil w2) hs)
   clear hwt
   go_enter Tryz.func25, Tryz.ntmps25
   go_wp2_with fail
   refine HN.out.mono ?_; rintro e w2 ⟨rfl, k2⟩
   go_wp2_with fail
   refine (HD.out w2 (k1.trans k2)).mono ?_; rintro e w3 ⟨v3, rfl, hv3, k3⟩
   have hn3 : Nds w3 v3 t.not.not.enc := hv3.nds (by rw [show (Fm.not (Fm.not t)).enc.length = _ from hlen.out]; omega)
   obtain ⟨p3, n3, c3, rfl⟩ := hn3.shape
   have hnn := hn3.lenIs
   have hbig : ¬ (20 : Int) < n3 := by rw [hnn, hlen.out]; omega
   have HN3 := hid hn3
   clear hnn hn3
   go_wp2_with fail
   refine (HT.out _ w3 HN3.out).mono ?_; rintro e w4 ⟨s, rfl, hs4, k4⟩
   go_wp2_with fail
   refine (HP.out s hs4 w4).mono ?_; rintro e w5 ⟨rfl, k5⟩
   go_wp2_with fail
   go_ret2
   exact ⟨rfl, (((k1.trans k2).trans k3).trans k4).trans k5⟩
 ·have h' : (plainErr a != 0) = true := by simp [h]
  have H := hid h; clear h
  refine ⟨false, plainErr a, .inr ⟨H.out, rfl, rfl⟩, fun v w hv => ?_⟩
  ·obtain ⟨p, n, cap, rfl⟩ := hv.shape
   have hne := plainCode_any [a] _ _ (NdsL.lit1 hv)
   rw [plainErrs_one] at hne
   have HN := hid hne; clear hne
   have k1 := (Keeps.refl w).alloc (.cells #[.slice p n cap] 24)
   go_enter Tryz.func25, Tryz.ntmps25
   go_wp2_with (go_at_call 72; refine HN.out.mono ?_; rintro e w2 ⟨rfl, k2⟩)
   go_ret2
   exact ⟨rfl, k1.trans k2⟩
set_option maxRecDepth 20000 in
set_option maxHeartbeats 1000000 in
theorem implIsClassicalKind_is (a : List Nd) : OneI (fun t b c => b = smallB (2 * t.enc.length + 4) [t.not.not] t ∧ c = smallE (2 * t.enc.length + 4)) 27 a := by
 by_cases h : plainErr a = 0
 ·obtain ⟨t, hw, rfl, hp, hl⟩ := plain_tree h
  refine ⟨smallB (2 * t.enc.length + 4) [t.not.not] t, smallE (2 * t.enc.length + 4), .inl ⟨t, hw, rfl, hp, hl, h, rfl, rfl⟩, fun v w hv => ?_⟩
  have hok : OkF t := ⟨hw, hp⟩
  obtain ⟨p, n, cap, rfl⟩ := hv.shape
  have hne := plainCode_any [t.enc] _ _ (NdsL.lit1 hv)
  rw [plainErrs_one, h] at hne
  have HN := hid hne; clear hne h
  have k1 := (Keeps.refl w).alloc (.cells #[.slice p n cap] 24)
  have hlen := hid (show t.not.not.enc.length = t.enc.length + 4 by rw [not_len, not_len])
  have hnl := hid hv.lenIs
  by_cases hs : 20 < 2 * t.enc.length + 4
  ·rw [show smallB (2 * t.enc.length + 4) [t.not.not] t = false from by simp [smallB]; omega, show smallE (2 * t.enc.length + 4) = 3 from by simp [smallE]; omega]
   have HD := hid (fun w2 (k : Keeps w w2) => doubleNegation_any t _ w2 (hv.keeps k) (by omega))
   go_enter Tryz.func27, Tryz.ntmps27
   go_wp2_with fail
   refine HN.out.mono ?_; rintro e w2 ⟨rfl, k2⟩
   go_wp2_with fail
   refine (HD.out w2 (k1.trans k2)).mono ?_; rintro e w3 ⟨v3, rfl, hv3, k3⟩
   have hn3 : Nds w3 v3 t.not.not.enc := hv3.nds (by rw [show (Fm.not (Fm.not t)).enc.length = _ from hlen.out]; omega)
   obtain ⟨p3, n3, c3, rfl⟩ := hn3.shape
   have hnn := hn3.lenIs
   have hbig : (20 : Int) < (n : Int) + n3 := by have := hnl.out; rw [hnn, hlen.out]; omega
   have hb1 : n ≤ 1000 := by have := hnl.out; omega
   have hb2 : n3 ≤ 1000 := by rw [hnn, hlen.out]; omega
   clear hnn
   go_wp2_with fail
   go_ret2
   exact ⟨rfl, (k1.trans k2).trans k3⟩
  ·rw [show smallB (2 * t.enc.length + 4) [t.not.not] t = sqB [t.not.not] t from by simp [smallB]; omega, show smallE (2 * t.enc.length + 4) = 0 from by simp [smallE]; omega]
   have hwt : wt t + wt t.not.not ≤ 50000000 := by
    have h1 := wt_le_pow t.not.not
    have h2 := pow20 (n := t.not.not.enc.length) (by rw [hlen.out]; omega)
    have h3 := wt_le_pow t
    have h4 := pow20 (n := t.enc.length) (by omega)
    omega
   have HD := hid (fun w2 (k : Keeps w w2) => doubleNegation_any t _ w2 (hv.keeps k) (by omega))
   have HE := hid (fun v3 w2 (k : Keeps w w2) (h3 : Nds w2 v3 t.not.not.enc) => equivalent_any t t.not.not hok hok.not.not hwt _ v3 w2 (hv.keeps k) h3)
   rw [sqB_true (sq_notnot t), Bool.true_and] at HE
   clear hwt
   go_enter Tryz.func27, Tryz.ntmps27
   go_wp2_with fail
   refine HN.out.mono ?_; rintro e w2 ⟨rfl, k2⟩
   go_wp2_with fail
   refine (HD.out w2 (k1.trans k2)).mono ?_; rintro e w3 ⟨v3, rfl, hv3, k3⟩
   have hn3 : Nds w3 v3 t.not.not.enc := hv3.nds (by rw [show (Fm.not (Fm.not t)).enc.length = _ from hlen.out]; omega)
   obtain ⟨p3, n3, c3, rfl⟩ := hn3.shape
   have hnn := hn3.lenIs
   have hbig : ¬ (20 : Int) < (n : Int) + n3 := by have := hnl.out; rw [hnn, hlen.out]; omega
   have hb1 : n ≤ 1000 := by have := hnl.out; omega
   have hb2 : n3 ≤ 1000 := by rw [hnn, hlen.out]; omega
   have HN3 := hid hn3
   clear hnn hn3
   go_wp2_with fail
   refine (HE.out _ w3 ((k1.trans k2).trans k3) HN3.out).mono ?_; rintro e w4 ⟨rfl, k4⟩
   go_wp2_with fail
   go_ret2
   exact ⟨rfl, ((k1.trans k2).trans k3).trans k4⟩
 ·have h' : (plainErr a != 0) = true := by simp [h]
  have H := hid h; clear h
  refine ⟨false, plainErr a, .inr ⟨H.out, rfl, rfl⟩, fun v w hv => ?_⟩
  ·obtain ⟨p, n, cap, rfl⟩ := hv.shape
   have hne := plainCode_any [a] _ _ (NdsL.lit1 hv)
   rw [plainErrs_one] at hne
   have HN := hid hne; clear hne
   have k1 := (Keeps.refl w).alloc (.cells #[.slice p n cap] 24)
   go_enter Tryz.func27, Tryz.ntmps27
   go_wp2_with (go_at_call 72; refine HN.out.mono ?_; rintro e w2 ⟨rfl, k2⟩)
   go_ret2
   exact ⟨rfl, k1.trans k2⟩
end Go.Proofs.YtfmmajgkjkmghaaGreat
namespace Go.Proofs.YtfmmajgkjkmghaaGreat
open Go.RowKit
end Go.Proofs.YtfmmajgkjkmghaaGreat
namespace Go.Proofs.YtfmmajgkjkmghaaGreat
open Go.RowKit
end Go.Proofs.YtfmmajgkjkmghaaGreat
namespace Go.Proofs.YtfmmajgkjkmghaaGreat
open Go.RowKit
end Go.Proofs.YtfmmajgkjkmghaaGreat
