/- Draws of disjunctions and of formulas for FnHarrop. -/
import Derived.Test.YtpbbfoliabgkpaaGreatGD26
namespace Go.Proofs.YtpbbfoliabgkpaaGreat
open Go.RowKit
/-- a right side that is drawn, beside any left side -/
def DrawQ (B : Nat) (w : World) (e : Ending) (w' : World) : Prop := ∃ x sr t, e = .returned (.tuple #[x, .string sr]) ∧ TxX sr t ∧ OkF t ∧ t.enc.length ≤ 22 ∧ Dr B w w'
theorem TxX.of {s : ByteArray} {t : Fm} (h : bts s = t.body) (hl : t.enc.length ≤ 22) : TxX s t := ⟨small_size h (by omega), .inl h⟩
theorem txX_p : TxX ⟨#[40, 112, 41]⟩ (.var 0) := ⟨by decide, .inr (by decide)⟩
--
set_option maxRecDepth 20000 in
set_option maxHeartbeats 2000000 in
theorem l23Draw_any (B : Nat) (w : World) (hs : Src w B) : Calls Tryz.prog 67 #[.pointer (some ⟨B, 0, none⟩)] w (DrawQ B w) := by
  have hB := hs.lt
  go_enter Tryz.func67, Tryz.ntmps67
  go_wp2_with fail
  refine (l01Next_any 2 B w hs (by omega)).mono ?_; rintro e w1 ⟨r1, rfl, hr1, d1⟩
  by_cases h0 : r1 = 0
  · subst h0
    go_wp2_with fail
    refine (l22Theorem_any B w1 d1.2).mono ?_; rintro e w2 ⟨b, off, n, cap, R, sr, t, rfl, _, _, hsr, okt, hl, d2⟩
    go_wp2_with fail
    go_ret2
    exact ⟨_, sr, t, rfl, TxX.of hsr hl, okt, hl, d1.trans d2⟩
  · have h0' : ((r1 : Nat) : Int) ≠ 0 := by omega
    go_wp2_with fail
    refine (l22Sides_any B w1 d1.2).mono ?_; rintro e w2 ⟨o, sr, t, rfl, ⟨b, off, n, cap, R, rfl, hR, hok, hl5, hlen, hwt, d2⟩, hsr, okt, hlt22⟩
    have D2 := d1.trans d2
    have hX := TxX.of hsr hlt22
    go_wp2_with fail
    refine (l01Next_any 30 B w2 D2.2 (by omega)).mono ?_; rintro e w3 ⟨r3, rfl, hr3, d3⟩
    have D3 := D2.trans d3
    have hR3 := hR.dr d3 (by have := d1.size; omega)
    clear hR
    obtain rfl | rfl | rfl | h2 : r3 = 0 ∨ r3 = 1 ∨ r3 = 2 ∨ 2 < r3 := by omega
    · obtain ⟨ss, hss, htx, _⟩ := hR3
      have hsl := htx.length
      have ka := (Keeps.refl w3).alloc (.cells #[.string ⟨#[112]⟩] 9)
      have hsz : w1.heap.size ≤ (w3.alloc (.cells #[.string ⟨#[112]⟩] 9)).heap.size := (d2.trans d3).keeps ka |>.size
      have hB1 : B < w1.heap.size := by have := d1.size; omega
      have hD1 := d1.size
      have hsk := hss.keeps ka
      clear hss
      go_wp2_with (at_builtin; refine appS rfl (.tmp 27) (.tmp 28) rfl w1.heap.size _ ss rfl hsk _ [⟨#[112]⟩] rfl (Strs.lit1 w3 ⟨#[112]⟩) hsz (by simp; omega) ?_; intro v4 w4 hv4 hg4 hr4)
      have D4 := (D3.keeps ka).grown hg4 (fun i e => by have := hr4 i e; omega)
      go_ret2
      exact ⟨_, sr, t, rfl, hX, okt, hlt22, D4⟩
    · go_wp2_with fail
      go_ret2
      exact ⟨_, _, .var 0, rfl, txX_p, okF_var (by omega), by simp [Fm.enc], D3⟩
    · have HD := hid (l02DrawF_any B 3 (by omega) 22 (by omega) w3 D3.2)
      go_wp2_with fail
      refine HD.out.mono ?_; rintro e w4 ⟨v4, t4, rfl, hv4, hl4, ok4, d4⟩
      have D4 := D3.trans d4
      have HT := hid (l02Text_any t4 ok4.1 ok4.2 (by omega) v4 w4 (hv4.nds (by omega)))
      clear hv4
      go_wp2_with fail
      refine HT.out.mono ?_; rintro e w5 ⟨s5, rfl, hs5, k5⟩
      go_wp2_with fail
      go_ret2
      exact ⟨_, s5, t4, rfl, TxX.of hs5 (by omega), ok4, by omega, D4.keeps k5⟩
    · have g0 : ((r3 : Nat) : Int) ≠ 0 := by omega
      have g1 : ((r3 : Nat) : Int) ≠ 1 := by omega
      have g2 : ((r3 : Nat) : Int) ≠ 2 := by omega
      go_wp2_with fail
      go_ret2
      exact ⟨_, sr, t, rfl, hX, okt, hlt22, D3⟩
--
set_option maxRecDepth 20000 in
set_option maxHeartbeats 2000000 in
theorem drawProvedDisjunct_any (v : Value) (n : Nat) (w : World) (hv : Bts w v n) (hn : n ≤ 4096) : Calls Tryz.prog 13 #[v] w fun e w' => ∃ x s1 s2 t1 t2, e = .returned (.tuple #[x, .string s1, .string s2]) ∧ TxX s1 t1 ∧ TxX s2 t2 ∧ OkF t1 ∧ OkF t2 ∧ t1.enc.length ≤ 22 ∧ t2.enc.length ≤ 22 ∧ Keeps w w' := by
  have HF := hid (l01From_any v n w hv hn)
  obtain ⟨p, c, rfl, _⟩ := hv
  go_enter Tryz.func13, Tryz.ntmps13
  go_wp2_with fail
  refine HF.out.mono ?_; rintro e w0 ⟨B, rfl, hB, hs, k0⟩
  go_wp2_with fail
  refine (l23Draw_any B w0 hs).mono ?_; rintro e w1 ⟨x1, s1, t1, rfl, hx1, ok1, hl1, d1⟩
  go_wp2_with fail
  refine (l23Draw_any B w1 d1.2).mono ?_; rintro e w2 ⟨x2, s2, t2, rfl, hx2, ok2, hl2, d2⟩
  go_wp2_with fail
  refine (l01Next_any 2 B w2 d2.2 (by omega)).mono ?_; rintro e w3 ⟨r3, rfl, hr3, d3⟩
  have kF := Dr.keepsOf k0 hB ((d1.trans d2).trans d3)
  by_cases h0 : r3 = 0
  · subst h0
    go_wp2_with fail
    refine bodyPost_ret (v := .tuple #[x1, .string s2, .string s1]) (by simp [results, Tryz.results13, go_sem]) rfl ?_
    exact ⟨_, s2, s1, t2, t1, rfl, hx2, hx1, ok2, ok1, hl2, hl1, kF⟩
  · have h0' : ((r3 : Nat) : Int) ≠ 0 := by omega
    go_wp2_with fail
    refine bodyPost_ret (v := .tuple #[x1, .string s1, .string s2]) (by simp [results, Tryz.results13, go_sem]) rfl ?_
    exact ⟨_, s1, s2, t1, t2, rfl, hx1, hx2, ok1, ok2, hl1, hl2, kF⟩
--
set_option maxRecDepth 20000 in
set_option maxHeartbeats 1000000 in
theorem l17Plain_any (B : Nat) (w : World) (hs : Src w B) : Calls Tryz.prog 59 #[.pointer (some ⟨B, 0, none⟩), .int .i64 12, .int .i64 3] w (DrawA B 1000 w) := by
  go_enter Tryz.func59, Tryz.ntmps59
  go_wp2_with fail
  refine (l01Next_any 30 B w hs (by omega)).mono ?_; rintro e w1 ⟨r1, rfl, hr1, d1⟩
  have HA := hid (fun m => l02Any_any B 3 12 (by omega) (by omega) m w1 d1.2)
  go_wp2_with fail
  refine (HA.out _).mono ?_; rintro e w2 ⟨v2, a2, rfl, hv2, hl2, d2⟩
  go_wp2_with fail
  go_ret
  exact ⟨_, a2, rfl, hv2.mono d1.size, hl2, d1.trans d2⟩
set_option maxRecDepth 20000 in
set_option maxHeartbeats 1000000 in
theorem drawIsHarrop_any (v : Value) (n : Nat) (w : World) (hv : Bts w v n) (hn : n ≤ 4096) : Calls Tryz.prog 9 #[v] w (DrawnA 1000 w) := by
  have HF := hid (l01From_any v n w hv hn)
  obtain ⟨p, c, rfl, _⟩ := hv
  go_enter Tryz.func9, Tryz.ntmps9
  go_wp2_with fail
  refine HF.out.mono ?_; rintro e w0 ⟨B, rfl, hB, hs, k0⟩
  go_wp2_with fail
  refine (l17Plain_any B w0 hs).mono ?_; rintro e w1 ⟨v1, a, rfl, hv1, hl1, d1⟩
  have hsz := k0.size
  go_wp2_with fail
  go_ret
  exact ⟨_, a, rfl, hv1.mono hsz, hl1, Dr.keepsOf k0 hB d1⟩
end Go.Proofs.YtpbbfoliabgkpaaGreat
