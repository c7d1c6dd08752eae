/- Walks: Kolmogorov's translation in the reference. -/
import Derived.Test.YtcbhlfbcbicekaaT1
import Derived.Deep.RegionHeld3
namespace Go.Proofs.Ytcbhlfbcbicekaa
open Go.RowKit
def kol : Fm → Fm
  | .var v => (Fm.var v).not.not
  | .fls => .fls
  | .and a b => (Fm.and (kol a) (kol b)).not.not
  | .or a b => (Fm.or (kol a) (kol b)).not.not
  | .imp a b => (Fm.imp (kol a) (kol b)).not.not
  | .box _ => .fls
  | .dia _ => .fls
def gen : Fm → Fm
  | .var v => (Fm.var v).not.not
  | .fls => .fls
  | .and a b => .and (gen a) (gen b)
  | .or a b => (Fm.and (gen a).not (gen b).not).not
  | .imp a b => .imp (gen a) (gen b)
  | .box _ => .fls
  | .dia _ => .fls
theorem kol_len (t : Fm) : (kol t).enc.length ≤ 9 * t.enc.length := by
  induction t <;> simp [kol, Fm.not, Fm.enc] at * <;> omega
theorem gen_len (t : Fm) : (gen t).enc.length ≤ 9 * t.enc.length := by
  induction t <;> simp [gen, Fm.not, Fm.enc] at * <;> omega
--
set_option maxHeartbeats 1000000 in
theorem l29Kolmogorov_any (t : Fm) (hp : t.plain = true) : ∀ (v : Value) (w : World), Nds w v t.enc → t.enc.length ≤ 1048576 → Calls Try.prog 64 #[v] w (RetN w (kol t).enc) := by
  induction t with
  | var i =>
    intro v w hv hl
    have hv0 := hv
    obtain ⟨b, off, n, cap, rfl, h0, h1, h2, h3, hc, _⟩ := hv.head
    clear hv
    go_enter Try.func64, Try.ntmps64
    go_wp2_with (go_at_call 134; first | ((with_reducible refine (l02Not_any (.var i) _ _ hv0 (by simp [Fm.enc])).mono ?_); rintro e w1 ⟨v1, rfl, hv1, k1⟩) | ((with_reducible refine (l02Not_any (Fm.var i).not v1 _ (hv1.nds (by simp [Fm.not, Fm.enc])) (by simp [Fm.not, Fm.enc])).mono ?_); rintro e w2 ⟨v2, rfl, hv2, k2⟩))
    go_ret
    exact ⟨_, rfl, hv2.mono k1.size, k1.trans k2⟩
  | fls =>
    intro v w hv hl
    obtain ⟨b, off, n, cap, rfl, h0, h1, h2, h3, hc, _⟩ := hv.head
    clear hv
    go_enter Try.func64, Try.ntmps64
    go_wp2_with (go_at_call 135; refine (l02False_any _).mono ?_; rintro e w1 ⟨v1, rfl, hv1, k1⟩)
    go_ret
    exact ⟨_, rfl, hv1, k1⟩
  | box x ih => simp [Fm.plain] at hp
  | dia x ih => simp [Fm.plain] at hp
  | and x y ihx ihy =>
    simp [Fm.plain] at hp
    intro v w hv hl
    have hls : 1 + x.enc.length + y.enc.length ≤ 1048576 := by simp [Fm.enc] at hl; omega
    have HX := hid (ihx hp.1)
    have HY := hid (ihy hp.2)
    clear ihx ihy hl
    have bx := kol_len x
    have by' := kol_len y
    have hv0 := hv
    obtain ⟨b, off, n, cap, rfl, h0, h1, h2, h3, hc, _⟩ := hv.head
    clear hv
    go_enter Try.func64, Try.ntmps64
    go_wp2_with fail
    go_region_held3 (fun w' => w'.cell? ⟨b, off, none⟩ = some (.int .i64 2)) (first | exact hc | exact c2 | exact c4 | exact c5 | exact c6 | exact c7) (first
      | (go_at_call 136; refine (l02Left_any _ _ x y.enc _ _ (hv0.keeps (Keeps.refl w).drew) rfl).mono ?_; rintro e w' ⟨v1, rfl, hv1, rfl⟩)
      | (go_at_call 137; refine (l02Right_any _ _ x y _ _ ((hv0.keeps (Keeps.refl w).drew).keeps k2) rfl).mono ?_; rintro e w' ⟨v3, rfl, hv3, rfl⟩)
      | (go_at_call 64; first
          | ((with_reducible refine (HX.out v1 _ hv1 (by omega)).mono ?_); rintro e w2 ⟨v2, rfl, hv2, k2⟩; have c2 := k2.cell (show (World.drew w).cell? _ = _ from hc))
          | ((with_reducible refine (HY.out v3 _ hv3 (by omega)).mono ?_); rintro e w4 ⟨v4, rfl, hv4, k4⟩; have c4 := k4.cell c2))
      | (go_at_call 86; refine (l02Pair_any _ _ _ _ _ _ ((hv2.nds (by omega)).keeps k4) (hv4.nds (by omega)) (by omega)).mono ?_; rintro e w5 ⟨v5, rfl, hv5, k5⟩; have c5 := k5.cell c4)
      | (go_at_call 134; first
          | ((with_reducible refine (l02Not_any (.and (kol x) (kol y)) v5 _ (hv5.nds (by simp; omega)) (by simp [Fm.enc]; omega)).mono ?_); rintro e w6 ⟨v6, rfl, hv6, k6⟩; have c6 := k6.cell c5)
          | ((with_reducible refine (l02Not_any (Fm.and (kol x) (kol y)).not v6 _ (hv6.nds (by simp [Fm.not, Fm.enc]; omega)) (by simp [Fm.not, Fm.enc]; omega)).mono ?_); rintro e w7 ⟨v7, rfl, hv7, k7⟩; have c7 := k7.cell c6)))
    go_wp2
    go_ret
    have kk := ((k2.trans k4).trans (k5.trans k6))
    exact ⟨_, rfl, hv7.mono (by simpa using kk.size), ((Keeps.refl w).drew).trans (kk.trans k7)⟩
  | or x y ihx ihy =>
    simp [Fm.plain] at hp
    intro v w hv hl
    have hls : 1 + x.enc.length + y.enc.length ≤ 1048576 := by simp [Fm.enc] at hl; omega
    have HX := hid (ihx hp.1)
    have HY := hid (ihy hp.2)
    clear ihx ihy hl
    have bx := kol_len x
    have by' := kol_len y
    have hv0 := hv
    obtain ⟨b, off, n, cap, rfl, h0, h1, h2, h3, hc, _⟩ := hv.head
    clear hv
    go_enter Try.func64, Try.ntmps64
    go_wp2_with fail
    go_region_held3 (fun w' => w'.cell? ⟨b, off, none⟩ = some (.int .i64 3)) (first | exact hc | exact c2 | exact c4 | exact c5 | exact c6 | exact c7) (first
      | (go_at_call 136; refine (l02Left_any _ _ x y.enc _ _ (hv0.keeps (Keeps.refl w).drew) rfl).mono ?_; rintro e w' ⟨v1, rfl, hv1, rfl⟩)
      | (go_at_call 137; refine (l02Right_any _ _ x y _ _ ((hv0.keeps (Keeps.refl w).drew).keeps k2) rfl).mono ?_; rintro e w' ⟨v3, rfl, hv3, rfl⟩)
      | (go_at_call 64; first
          | ((with_reducible refine (HX.out v1 _ hv1 (by omega)).mono ?_); rintro e w2 ⟨v2, rfl, hv2, k2⟩; have c2 := k2.cell (show (World.drew w).cell? _ = _ from hc))
          | ((with_reducible refine (HY.out v3 _ hv3 (by omega)).mono ?_); rintro e w4 ⟨v4, rfl, hv4, k4⟩; have c4 := k4.cell c2))
      | (go_at_call 86; refine (l02Pair_any _ _ _ _ _ _ ((hv2.nds (by omega)).keeps k4) (hv4.nds (by omega)) (by omega)).mono ?_; rintro e w5 ⟨v5, rfl, hv5, k5⟩; have c5 := k5.cell c4)
      | (go_at_call 134; first
          | ((with_reducible refine (l02Not_any (.or (kol x) (kol y)) v5 _ (hv5.nds (by simp; omega)) (by simp [Fm.enc]; omega)).mono ?_); rintro e w6 ⟨v6, rfl, hv6, k6⟩; have c6 := k6.cell c5)
          | ((with_reducible refine (l02Not_any (Fm.or (kol x) (kol y)).not v6 _ (hv6.nds (by simp [Fm.not, Fm.enc]; omega)) (by simp [Fm.not, Fm.enc]; omega)).mono ?_); rintro e w7 ⟨v7, rfl, hv7, k7⟩; have c7 := k7.cell c6)))
    go_wp2
    go_ret
    have kk := ((k2.trans k4).trans (k5.trans k6))
    exact ⟨_, rfl, hv7.mono (by simpa using kk.size), ((Keeps.refl w).drew).trans (kk.trans k7)⟩
  | imp x y ihx ihy =>
    simp [Fm.plain] at hp
    intro v w hv hl
    have hls : 1 + x.enc.length + y.enc.length ≤ 1048576 := by simp [Fm.enc] at hl; omega
    have HX := hid (ihx hp.1)
    have HY := hid (ihy hp.2)
    clear ihx ihy hl
    have bx := kol_len x
    have by' := kol_len y
    have hv0 := hv
    obtain ⟨b, off, n, cap, rfl, h0, h1, h2, h3, hc, _⟩ := hv.head
    clear hv
    go_enter Try.func64, Try.ntmps64
    go_wp2_with fail
    go_region_held3 (fun w' => w'.cell? ⟨b, off, none⟩ = some (.int .i64 4)) (first | exact hc | exact c2 | exact c4 | exact c5 | exact c6 | exact c7) (first
      | (go_at_call 136; refine (l02Left_any _ _ x y.enc _ _ (hv0.keeps (Keeps.refl w).drew) rfl).mono ?_; rintro e w' ⟨v1, rfl, hv1, rfl⟩)
      | (go_at_call 137; refine (l02Right_any _ _ x y _ _ ((hv0.keeps (Keeps.refl w).drew).keeps k2) rfl).mono ?_; rintro e w' ⟨v3, rfl, hv3, rfl⟩)
      | (go_at_call 64; first
          | ((with_reducible refine (HX.out v1 _ hv1 (by omega)).mono ?_); rintro e w2 ⟨v2, rfl, hv2, k2⟩; have c2 := k2.cell (show (World.drew w).cell? _ = _ from hc))
          | ((with_reducible refine (HY.out v3 _ hv3 (by omega)).mono ?_); rintro e w4 ⟨v4, rfl, hv4, k4⟩; have c4 := k4.cell c2))
      | (go_at_call 86; refine (l02Pair_any _ _ _ _ _ _ ((hv2.nds (by omega)).keeps k4) (hv4.nds (by omega)) (by omega)).mono ?_; rintro e w5 ⟨v5, rfl, hv5, k5⟩; have c5 := k5.cell c4)
      | (go_at_call 134; first
          | ((with_reducible refine (l02Not_any (.imp (kol x) (kol y)) v5 _ (hv5.nds (by simp; omega)) (by simp [Fm.enc]; omega)).mono ?_); rintro e w6 ⟨v6, rfl, hv6, k6⟩; have c6 := k6.cell c5)
          | ((with_reducible refine (l02Not_any (Fm.imp (kol x) (kol y)).not v6 _ (hv6.nds (by simp [Fm.not, Fm.enc]; omega)) (by simp [Fm.not, Fm.enc]; omega)).mono ?_); rintro e w7 ⟨v7, rfl, hv7, k7⟩; have c7 := k7.cell c6)))
    go_wp2
    go_ret
    have kk := ((k2.trans k4).trans (k5.trans k6))
    exact ⟨_, rfl, hv7.mono (by simpa using kk.size), ((Keeps.refl w).drew).trans (kk.trans k7)⟩
end Go.Proofs.Ytcbhlfbcbicekaa
