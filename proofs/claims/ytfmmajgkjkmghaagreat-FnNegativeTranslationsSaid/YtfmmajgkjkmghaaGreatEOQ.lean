import Derived.Test.YtfmmajgkjkmghaaGreatEQN
import Derived.Test.YtfmmajgkjkmghaaGreatEQG
import Derived.Test.YtfmmajgkjkmghaaGreatEK3
import Derived.Test.YtfmmajgkjkmghaaGreatEQI
import Derived.Test.YtfmmajgkjkmghaaGreatEP3
import Derived.Test.YtfmmajgkjkmghaaGreatED4
import Derived.Test.YtfmmajgkjkmghaaGreatEP6
import Derived.Test.YtfmmajgkjkmghaaGreatEOG
/- The skeleton of a model: both sides. -/
namespace Go.Proofs.YtfmmajgkjkmghaaGreat
open Go.RowKit
end Go.Proofs.YtfmmajgkjkmghaaGreat
namespace Go.Proofs.YtfmmajgkjkmghaaGreat
open Go.RowKit
theorem isFm_of {t : Fm} (hw : t.wf) (hl : t.enc.length ≤ 40) : isFm t.enc = true := by unfold isFm; rw [isTree_of_enc hw, decide_eq_true hl]; rfl
theorem madeL_ok {a : List Nd} (h : (madeL a).2 = 0) : a.length ≤ 40 ∧ (madeL a).1 = a := by
 unfold madeL at *
 by_cases hl : a.length ≤ 40
 ·rw [if_pos hl]; exact ⟨hl, rfl⟩
 ·rw [if_neg hl] at h; simp at h
theorem madeL_code (a : List Nd) : (madeL a).2 = 0 ∨ (madeL a).2 = 3 := by
 unfold madeL
 by_cases hl : a.length ≤ 40
 ·rw [if_pos hl]; exact .inl rfl
 ·rw [if_neg hl]; exact .inr rfl
theorem val_is {n : Int} {a vs : List Int} (h : isVal n a vs = true) : ∃ b c : List Nat, a = zs b ∧ n = b.length ∧ vs = zs c ∧ Pos b ∧ c.length = 6 ∧ Bnd b.length c ∧ ∀ p, c.getD p 0 ∈ upL b := by
 unfold isVal at h
 rw [Bool.and_eq_true, Bool.and_eq_true, decide_eq_true_eq] at h
 obtain ⟨h1, h6, h3⟩ := h
 obtain ⟨b, rfl, rfl, h8, hbm, hp⟩ := (isPos_iff n a).1 h1
 rw [zs_toNat] at h3
 have hm : vs.all (isM b.length) = true := by
  rw [List.all_eq_true] at h3 ⊢
  intro x hx
  have := h3 x hx
  unfold isUpI at this
  rw [Bool.and_eq_true] at this
  exact this.1
 obtain ⟨c, rfl, hc⟩ := all_isM hm
 have hup : ∀ x ∈ c, x ∈ upL b := fun x hx => by
  have := List.all_eq_true.1 h3 (x : Int) (by unfold zs; exact List.mem_map.2 ⟨x, hx, rfl⟩)
  unfold isUpI at this
  rw [Bool.and_eq_true, decide_eq_true_eq, Int.toNat_natCast] at this
  unfold upL upK
  rw [List.mem_filter, List.mem_range]
  refine ⟨hc x hx, ?_⟩
  unfold isUp
  rw [beq_iff_eq]
  exact_mod_cast this.2
 refine ⟨b, c, rfl, rfl, rfl, Pos.of h8 hbm hp, by rw [zs_length] at h6; exact h6, mem_bnd hc, fun p => ?_⟩
 by_cases hpl : p < c.length
 ·rw [getD_get hpl]; exact hup _ (List.getElem_mem hpl)
 ·rw [List.getD_eq_getElem?_getD, List.getElem?_eq_none (by omega)]
  exact (mem_upL (Pos.of h8 hbm hp).2.2.1).2 ⟨Nat.two_pow_pos _, fun x y _ hx => by simp at hx⟩
end Go.Proofs.YtfmmajgkjkmghaaGreat
namespace Go.Proofs.YtfmmajgkjkmghaaGreat
namespace Ax
def p : Fm := .var 0
def q : Fm := .var 1
def r : Fm := .var 2
end Ax
end Go.Proofs.YtfmmajgkjkmghaaGreat
namespace Go.Proofs.YtfmmajgkjkmghaaGreat
open Go.RowKit
def texts12 : List ByteArray := [⟨#[112, 124, 126, 112]⟩, ⟨#[126, 126, 112, 62, 112]⟩, ⟨#[40, 40, 112, 62, 113, 41, 62, 112, 41, 62, 112]⟩, ⟨#[126, 126, 40, 112, 124, 126, 112, 41]⟩, ⟨#[40, 112, 62, 113, 41, 124, 40, 113, 62, 112, 41]⟩,
 ⟨#[126, 40, 112, 38, 113, 41, 62, 126, 112, 124, 126, 113]⟩, ⟨#[126, 112, 124, 126, 126, 112]⟩, ⟨#[112, 62, 126, 126, 112]⟩, ⟨#[40, 112, 62, 113, 41, 62, 126, 113, 62, 126, 112]⟩, ⟨#[126, 126, 40, 112, 62, 113, 41, 62, 126, 126, 112, 62, 126, 126, 113]⟩,
 ⟨#[40, 126, 112, 62, 113, 124, 114, 41, 62, 40, 126, 112, 62, 113, 41, 124, 40, 126, 112, 62, 114, 41]⟩, ⟨#[112, 38, 40, 113, 124, 114, 41, 62, 112, 38, 113, 124, 112, 38, 114]⟩]
def ngF (a : Fm) : Fm := .imp a .fls
open Ax in
def forms12 : List Fm := [.or p (ngF p), .imp (ngF (ngF p)) p, .imp (.imp (.imp p q) p) p, ngF (ngF (.or p (ngF p))), .or (.imp p q) (.imp q p), .imp (ngF (.and p q)) (.or (ngF p) (ngF q)), .or (ngF p) (ngF (ngF p)),
 .imp p (ngF (ngF p)), .imp (.imp p q) (.imp (ngF q) (ngF p)), .imp (ngF (ngF (.imp p q))) (.imp (ngF (ngF p)) (ngF (ngF q))), .imp (.imp (ngF p) (.or q r)) (.or (.imp (ngF p) q) (.imp (ngF p) r)), .imp (.and p (.or q r)) (.or (.and p q) (.and p r))]
theorem forms12_ok : ∀ k, k < 12 → bts (texts12.getD k ⟨#[]⟩) = (forms12.getD k .fls).body ∧ (texts12.getD k ⟨#[]⟩).size ≤ 200 ∧ (forms12.getD k .fls).enc.length ≤ 40 := by
 decide +kernel
theorem forms12_wf : ∀ k, k < 12 → (forms12.getD k .fls).wf := by
 intro k h
 have : k = 0 ∨ k = 1 ∨ k = 2 ∨ k = 3 ∨ k = 4 ∨ k = 5 ∨ k = 6 ∨ k = 7 ∨ k = 8 ∨ k = 9 ∨ k = 10 ∨ k = 11 := by omega
 rcases this with rfl | rfl | rfl | rfl | rfl | rfl | rfl | rfl | rfl | rfl | rfl | rfl <;> simp [forms12, ngF, Fm.wf, Ax.p, Ax.q, Ax.r]
theorem StrsG.dr {w w' : World} {B b n c : Nat} {ss : List ByteArray} (h : Strs w (.slice (some ⟨b, 0, none⟩) n c) ss) (k : Dr B w w') (hb : b ≠ B) (hlt : b < w.heap.size) : Strs w' (.slice (some ⟨b, 0, none⟩) n c) ss := by
 obtain ⟨p, cap, e, h1, h2, hat, h3⟩ := h.at
 cases e
 refine Strs.ofAt h1 h2 (fun j hj => ?_) h3
 obtain ⟨b', off', hp, hc⟩ := hat j hj
 cases hp
 exact ⟨b, 0, rfl, by rw [(k.1.cell hlt hb).1]; exact hc⟩
set_option maxRecDepth 20000 in
theorem l17PlainN_any (B N V : Nat) (hN : N ≤ 100) (hV : V ≤ 1000) (w : World) (hs : Src w B) : Calls Tryz.prog 82 #[.pointer (some ⟨B, 0, none⟩), .int .i64 N, .int .i64 V] w (DrawA B 1000 w) := by
 go_enter Tryz.func82, Tryz.ntmps82
 go_wp2_with fail
 refine (l01Next_any 30 B w hs (by omega)).mono ?_; rintro e w1 ⟨r1, rfl, hr1, d1⟩
 have HA := hid (fun m => l02Any_any B V N hV hN m w1 d1.2)
 go_wp2_with fail
 refine (HA.out _).mono ?_; rintro e w2 ⟨v2, a2, rfl, hv2, hl2, d2⟩
 go_wp2_with fail
 go_ret
 exact ⟨v2, a2, rfl, hv2.mono d1.size, hl2, d1.trans d2⟩
set_option maxRecDepth 20000 in
set_option maxHeartbeats 1000000 in
theorem l23SmallN_any (B N : Nat) (hN : N ≤ 100) (w : World) (hs : Src w B) : Calls Tryz.prog 81 #[.pointer (some ⟨B, 0, none⟩), .int .i64 N] w (DrawA B 1000 w) := by
 have hB := hs.lt
 have hT : Strs (w.alloc (.cells (texts12.map Value.string).toArray 9)) (.slice (some ⟨w.heap.size, 0, none⟩) 12 12) texts12 := Strs.lit (w := w) texts12 (by simp [texts12])
 have d0 := Dr.of hs ((Keeps.refl w).alloc (.cells (texts12.map Value.string).toArray 9))
 have hsz0 : w.heap.size < (w.alloc (.cells (texts12.map Value.string).toArray 9)).heap.size := by simp
 have HT := hid hT; clear hT
 have HNX := hid (l01Next_any 4 B _ d0.2 (by omega))
 have HR := hid (fun k (hk : k < 12) wz => l02Read_any (forms12.getD k .fls) (forms12_wf k hk) (texts12.getD k ⟨#[]⟩) wz (forms12_ok k hk).1 (by have := (forms12_ok k hk).2.1; omega) (by have := (forms12_ok k hk).2.2; omega))
 have HLN := hid (fun k (hk : k < 12) => (forms12_ok k hk).2.2)
 have hg : ∀ k (h : k < 12), texts12[k]'h = texts12.getD k ⟨#[]⟩ := fun k h => by rw [List.getD_eq_getElem?_getD, List.getElem?_eq_getElem (show k < texts12.length from h)]; rfl
 have HG := hid hg; clear hg
 go_enter Tryz.func81, Tryz.ntmps81
 go_wp2_with fail
 refine HNX.out.mono ?_; rintro e w1 ⟨r1, rfl, hr1, d1⟩
 have D1 := d0.trans d1
 have hT1 := StrsG.dr HT.out d1 (by omega) hsz0
 have hsz1 := d1.size
 by_cases hz1 : r1 = 0
 ·subst hz1
  go_wp2_with fail
  refine (l01Next_any 12 B _ D1.2 (by omega)).mono ?_; rintro e w3 ⟨r3, rfl, hr3, d3⟩
  have D3 := D1.trans d3
  have hr : r3 < 12 := by omega
  have hr' : (r3 : Int) < 12 := by omega
  obtain ⟨b, o, e9, hc⟩ := (StrsG.dr hT1 d3 (by omega) (by omega)).get r3 hr
  cases e9
  rw [Nat.zero_add, HG.out r3 hr] at hc
  have HRk := hid (HR.out r3 hr)
  have hln := HLN.out r3 hr
  clear hT1
  generalize texts12.getD r3 ⟨#[]⟩ = x at *
  generalize (forms12.getD r3 .fls).enc = L at *
  go_wp2_with fail
  refine (HRk.out w3).mono ?_; rintro e w4 ⟨v4, rfl, hv4, k4⟩
  obtain ⟨p4, n4, c4, rfl⟩ := hv4.own_shape
  go_wp2_with fail
  go_ret
  exact ⟨_, L, rfl, hv4.mono D3.size, by omega, D3.keeps k4⟩
 ·have hz' : ((r1 : Nat) : Int) ≠ 0 := by omega
  clear hT1
  go_wp2_with fail
  refine (l17PlainN_any B N 3 hN (by omega) w1 D1.2).mono ?_; rintro e w2 ⟨v2, a2, rfl, hv2, hl2, d2⟩
  obtain ⟨p2, n2, c2, rfl⟩ := hv2.own_shape
  go_wp2_with fail
  go_ret
  exact ⟨_, a2, rfl, hv2.mono D1.size, hl2, D1.trans d2⟩
end Go.Proofs.YtfmmajgkjkmghaaGreat
namespace Go.Proofs.YtfmmajgkjkmghaaGreat
open Go.RowKit
set_option maxRecDepth 20000 in
set_option maxHeartbeats 1000000 in
theorem l29Draw_any (B : Nat) (w : World) (hs : Src w B) : Calls Tryz.prog 31 #[.pointer (some ⟨B, 0, none⟩)] w (DrawA B 1000 w) := by
 have HS := hid (fun wz (hz : Src wz B) => l23SmallN_any B 10 (by omega) wz hz)
 have HP := hid (fun wz (hz : Src wz B) => l17PlainN_any B 8 3 (by omega) (by omega) wz hz)
 have HQ := hid (fun wz (hz : Src wz B) => l17PlainN_any B 20 4 (by omega) (by omega) wz hz)
 go_enter Tryz.func31, Tryz.ntmps31
 go_wp2_with fail
 refine (l01Next_any 3 B w hs (by omega)).mono ?_; rintro e w1 ⟨r1, rfl, hr1, d1⟩
 obtain rfl | rfl | rfl : r1 = 0 ∨ r1 = 1 ∨ r1 = 2 := by omega
 ·go_wp2_with fail
  refine (HS.out w1 d1.2).mono ?_; rintro e w2 ⟨v2, a2, rfl, hv2, hl2, d2⟩
  obtain ⟨p2, n2, c2, rfl⟩ := hv2.own_shape
  go_wp2_with fail
  go_ret
  exact ⟨_, a2, rfl, hv2.mono d1.size, hl2, d1.trans d2⟩
 ·go_wp2_with fail
  refine (HP.out w1 d1.2).mono ?_; rintro e w2 ⟨v2, a2, rfl, hv2, hl2, d2⟩
  obtain ⟨p2, n2, c2, rfl⟩ := hv2.own_shape
  go_wp2_with fail
  go_ret
  exact ⟨_, a2, rfl, hv2.mono d1.size, hl2, d1.trans d2⟩
 ·go_wp2_with fail
  refine (HQ.out w1 d1.2).mono ?_; rintro e w2 ⟨v2, a2, rfl, hv2, hl2, d2⟩
  obtain ⟨p2, n2, c2, rfl⟩ := hv2.own_shape
  go_wp2_with fail
  go_ret
  exact ⟨_, a2, rfl, hv2.mono d1.size, hl2, d1.trans d2⟩
set_option maxRecDepth 20000 in
theorem drawGoedelGentzen_any (v : Value) (n : Nat) (w : World) (hv : Bts w v n) (hn : n ≤ 4096) : Calls Tryz.prog 19 #[v] w (DrawnA 1000 w) := by
 have HF := hid (l01From_any v n w hv hn)
 obtain ⟨p, c, rfl, _⟩ := hv
 go_enter Tryz.func19, Tryz.ntmps19
 go_wp2_with fail
 refine HF.out.mono ?_; rintro e w0 ⟨B, rfl, hB, hs, k0⟩
 go_wp2_with fail
 refine (l29Draw_any B w0 hs).mono ?_; rintro e w1 ⟨v1, a, rfl, hv1, hl1, d1⟩
 have hsz := k0.size
 go_wp2_with fail
 go_ret
 exact ⟨_, a, rfl, hv1.mono hsz, hl1, Dr.keepsOf k0 hB d1⟩
end Go.Proofs.YtfmmajgkjkmghaaGreat
namespace Go.Proofs.YtfmmajgkjkmghaaGreat
open Go.RowKit
set_option maxRecDepth 20000 in
theorem l05Squeeze_any (o : List Nat) (m : Nat) (v : Value) (w : World) (hv : Ints w v (zs o)) (h8 : o.length ≤ 8) (ho : ∀ i, o.getD i 0 ≤ 8) (hm : m < 256) :
  Calls Tryz.prog 216 #[v, .int .i64 m] w fun e w' => e = .returned (.int .i64 (sqz o m o.length : Nat)) ∧ w = w' := by
 have hv0 := hv
 obtain ⟨p, cap, rfl, _, hmx, _, _⟩ := hv
 unfold maxLen at hmx
 rw [zs_length o] at *
 have HC := hid (fun i (hi : i < o.length) => hv0.zs_cell i hi)
 clear hv0
 have HB := hid (fun i => l01BitB_any m (o.getD i 0) w hm (ho i))
 have HO := hid (fun (i : Nat) (hi : i ≤ 8) => l01One_any (i : Int) w (by omega) (by omega))
 have HS : Hid (∀ k, sqz o m (k + 1) = sqz o m k ||| (if m.testBit (o.getD k 0) then 2 ^ k else 0)) := hid fun _ => rfl
 have HL := hid (sqz_lt o m)
 have H0 : Hid (sqz o m 0 = 0) := hid rfl
 obtain ⟨Z, hZ⟩ : ∃ Z : Nat → Nat, ∀ i, Z i = sqz o m i := ⟨_, fun _ => rfl⟩
 obtain ⟨G, hG⟩ : ∃ G : Nat → Nat, ∀ i, G i = o.getD i 0 := ⟨fun i => o.getD i 0, fun _ => rfl⟩
 simp only [← hG] at HC HB HS
 simp only [← hZ] at HS HL H0 ⊢
 clear hG hZ ho
 generalize o.length = n at *
 go_enter Tryz.func216, Tryz.ntmps216
 go_wp2_with fail
 go_loopw [5, 6] (fun s5 s6 wr => ∃ i : Nat, i ≤ n ∧ s5 = .int .i64 (Z i : Nat) ∧ s6 = .int .i64 i ∧ w = wr) (fun _ s6 _ => n - (intOf s6).toNat)
 case atStart => exact ⟨0, by omega, by rw [H0.out]; rfl, rfl, rfl⟩
 case round =>
  obtain ⟨i, hi, rfl, rfl, rfl⟩ := hrel
  by_cases hlt : i < n
  ·have hlt' : (i : Int) < n := by omega
   obtain ⟨b1, o1, rfl, h1⟩ := HC.out i hlt
   have HBI := hid (HB.out i)
   have HOI := HO.out i (by omega)
   have hone : (2 : Int) ^ (i : Int).toNat = ((2 ^ i : Nat) : Int) := by rw [Int.toNat_natCast]; push_cast; rfl
   rw [hone] at HOI
   have HOI2 := hid HOI; clear HOI hone
   have hs := HS.out i
   have hlz := HL.out i
   have h2i : 2 ^ i ≤ 2 ^ 8 := Nat.pow_le_pow_right (by omega) (by omega)
   have hor := orN (Z i) (2 ^ i) (by omega) (by omega)
   clear hlz h2i
   generalize 2 ^ i = P at *
   generalize G i = y at *
   cases hb : m.testBit y
   ·rw [hb] at HBI
    have HZ2 : Hid (Z (i + 1) = Z i) := hid (by rw [hs, hb]; simp)
    clear hb hs
    generalize hz : Z i = z at *
    have HZI := hid hz; clear hz
    go_wp2_with fail
    refine HBI.out.mono ?_; rintro e w' ⟨rfl, rfl⟩
    go_wp2_with fail
    go_roundw
    case rel => exact ⟨i + 1, by omega, by rw [HZ2.out], by go_num, trivial⟩
    case measure => simp [intOf]; omega
   ·rw [hb] at HBI
    have HZ2 : Hid (Z (i + 1) = Z i ||| P) := hid (by rw [hs, hb]; simp)
    clear hb hs
    generalize hz : Z i = z at *
    have HZI := hid hz; clear hz
    go_wp2_with fail
    refine HBI.out.mono ?_; rintro e w' ⟨rfl, rfl⟩
    go_wp2_with fail
    refine HOI2.out.mono ?_; rintro e w' ⟨rfl, rfl⟩
    go_wp2_with fail
    go_roundw
    case rel => exact ⟨i + 1, by omega, by rw [HZ2.out], by go_num, trivial⟩
    case measure => simp [intOf]; omega
  ·have e : n = i := by omega
   subst e
   have hlt' : ¬ (n : Int) < n := by omega
   go_wp2_with fail
   go_ret
   exact ⟨rfl, rfl⟩
set_option maxRecDepth 20000 in
set_option maxHeartbeats 1000000 in
theorem l05Renumber_any (a o : List Nat) (va vo : Value) (w : World) (hva : Ints w va (zs a)) (hvo : Ints w vo (zs o)) (hn8 : o.length ≤ 8) (hal : a.length = o.length) (hlo : ∀ x ∈ o, x < o.length) (hab : Bnd o.length a) :
  Calls Tryz.prog 198 #[va, vo] w (RetI w (zs (renP a o))) := by
 have h256 := two8 hn8
 have ho8 : ∀ i, o.getD i 0 ≤ 8 := fun i => by
  by_cases hi : i < o.length
  ·rw [getD_get hi]; have := hlo _ (List.getElem_mem hi); omega
  ·rw [List.getD_eq_getElem?_getD, List.getElem?_eq_none (by omega)]; simp
 have HLO : Hid (∀ i, i < o.length → o.getD i 0 < o.length) := hid fun i hi => by rw [getD_get hi]; exact hlo _ (List.getElem_mem hi)
 have HSQ := hid (fun i w2 (k : Keeps w w2) => l05Squeeze_any o (a.getD i 0) vo w2 (hvo.keeps k) hn8 ho8 (Nat.lt_of_lt_of_le (hab i) h256))
 have hva0 := hva
 have hvo0 := hvo
 obtain ⟨p, cap, rfl, _, hmx, _, _⟩ := hva
 obtain ⟨q, cap2, rfl, _, hmx2, _, _⟩ := hvo
 unfold maxLen at hmx hmx2
 rw [zs_length a] at *
 rw [zs_length o] at *
 have hvc := hid (fun i (hi : i < o.length) wr (k : Keeps w wr) => (hvo0.keeps k).zs_cell i hi)
 have hva2 := hid (fun i (hi : i < a.length) wr (k : Keeps w wr) => (hva0.keeps k).zs_cell i hi)
 clear hva0 hvo0
 rw [hal] at *
 obtain ⟨F, hF⟩ : ∃ F : Nat → Nat, ∀ i, F i = sqz o (a.getD i 0) o.length := ⟨_, fun _ => rfl⟩
 have HR : Hid (∀ k, k < o.length → (renP a o).take (k + 1) = (renP a o).take k ++ [F (o.getD k 0)]) := hid fun k hk => by
  have hk2 : k < (renP a o).length := by rw [renP_len]; exact hk
  rw [List.take_succ_eq_append_getElem hk2]
  congr 1
  simp only [renP, List.getElem_map]
  rw [hF, getD_get hk]
 have HRE : Hid ((renP a o).take o.length = renP a o) := hid (List.take_of_length_le (by rw [renP_len]; omega))
 have HRL : Hid (∀ k, ((renP a o).take k).length ≤ k) := hid fun k => by rw [List.length_take]; omega
 have HR0 : Hid ((renP a o).take 0 = []) := hid rfl
 generalize renP a o = R at *
 obtain ⟨G, hG⟩ : ∃ G : Nat → Nat, ∀ i, G i = o.getD i 0 := ⟨fun i => o.getD i 0, fun _ => rfl⟩
 obtain ⟨A, hA⟩ : ∃ A : Nat → Nat, ∀ i, A i = a.getD i 0 := ⟨fun i => a.getD i 0, fun _ => rfl⟩
 simp only [← hF] at HSQ
 simp only [← hA] at hva2 HSQ
 simp only [← hG] at hvc HR HLO
 clear hF hG hA hlo hab ho8 hal
 generalize o.length = n at *
 go_enter Tryz.func198, Tryz.ntmps198
 go_wp2_with fail
 go_loopw [5, 6] (fun s5 s6 wr => ∃ i : Nat, i ≤ n ∧ s6 = .int .i64 i ∧ OwnI wr w.heap.size s5 (zs (R.take i)) ∧ Keeps w wr) (fun _ s6 _ => n - (intOf s6).toNat)
 case atStart => exact ⟨0, by omega, rfl, by rw [HR0.out]; exact OwnI.empty w, (Keeps.refl w).alloc _⟩
 case round =>
  obtain ⟨i, hi, rfl, hown, kw⟩ := hrel
  by_cases hlt : i < n
  ·have hlt' : (i : Int) < n := by omega
   obtain ⟨b1, o1, e1, h1⟩ := hvc.out i hlt wr kw
   have hx := HLO.out i hlt
   have hx' : (G i : Int) < n := by omega
   obtain ⟨b2, o2, e2, h2⟩ := hva2.out (G i) hx wr kw
   have HS2 := hid (HSQ.out (G i) wr kw)
   have HRI := hid (HR.out i hlt)
   have hrl := HRL.out i
   have hzl := zs_length (R.take i)
   subst e1 e2
   generalize G i = x at *
   generalize A x = ax at *
   generalize F x = fx at *
   have hsz := kw.size
   have kA := (Keeps.refl wr).alloc (.cells #[.int .i64 (fx : Int)] 2)
   have KW := hid kw; clear kw
   go_wp2_with fail
   refine HS2.out.mono ?_; rintro e w' ⟨rfl, rfl⟩
   go_wp2_with (at_builtin; refine appI rfl _ _ rfl w.heap.size _ (zs (R.take i)) rfl (hown.keeps kA) _ [(fx : Int)] rfl (Ints.lit1 wr fx) (by simp; omega) (by rw [hzl]; simp; omega) ?_; intro v1 w1 hv1 hg1 hr1)
   go_roundw
   case rel => exact ⟨i + 1, by omega, by go_num, by rw [HRI.out, zs_snoc]; exact hv1, (KW.out.trans kA).grown hg1 hr1⟩
   case measure => simp [intOf]; omega
  ·have e : n = i := by omega
   subst e
   have hlt' : ¬ (n : Int) < n := by omega
   rw [HRE.out] at hown
   go_wp2_with fail
   go_ret
   exact ⟨_, rfl, hown, kw⟩
end Go.Proofs.YtfmmajgkjkmghaaGreat
