/- Draws of sequents. -/
import Derived.Test.YtpbbfoliabgkpaaGreatGD17
import Derived.Test.YtpbbfoliabgkpaaGreatGD24
import Derived.Test.YtpbbfoliabgkpaaGreatGD10
namespace Go.Proofs.YtpbbfoliabgkpaaGreat
open Go.RowKit
theorem OLeft.dr {w w' : World} {B b : Nat} {v : Value} {G : List Fm} (h : OLeft w b v G) (k : Dr B w w') (hB : B < b) : OLeft w' b v G := by
  obtain ⟨ss, h1, h2, h3⟩ := h
  exact ⟨ss, own_touch h1 k.1 (fun i e hi => by have := (World.ownsRow.lt h1 i e).1; omega), h2, h3⟩
theorem OLeft.empty (w : World) : OLeft (w.alloc (.cells #[] 9)) w.heap.size (.slice (some ⟨w.heap.size, 0, none⟩) 0 0) [] :=
  ⟨[], World.ownsRow_made w #[] 0 (Nat.le_refl _) (by simp [maxLen]) (by simp), rfl, by simp⟩
theorem wt5 {c : Fm} (h : c.enc.length ≤ 5) : wt c ≤ 40 := by
  have h1 := wt_le_pow c
  have h2 : 2 ^ c.enc.length ≤ 2 ^ 5 := Nat.pow_le_pow_right (by omega) h
  omega
/-- a left side that is drawn -/
def SdAt (w : World) (B m : Nat) (o : Value) (wr : World) : Prop := ∃ b off n cap R, o = .slice (some ⟨b, off, none⟩) n cap ∧ OLeft wr w.heap.size (.slice (some ⟨b, off, none⟩) n cap) R ∧ OkL R ∧ (∀ a ∈ R, a.enc.length ≤ 5) ∧ R.length ≤ m ∧ wts R ≤ 40 * m ∧ Dr B w wr
def SdLp (w : World) (B : Nat) (o i' : Value) (wr : World) : Prop := ∃ k : Nat, k ≤ 2 ∧ i' = .int .i64 k ∧ SdAt w B (2 - k) o wr
/-- a sequent that is drawn -/
def DrawSd (B : Nat) (w : World) (e : Ending) (w' : World) : Prop := ∃ o sr t, e = .returned (.tuple #[o, .string sr]) ∧ SdAt w B 2 o w' ∧ bts sr = Fm.body t ∧ OkF t ∧ t.enc.length ≤ 22
--
set_option maxRecDepth 20000 in
set_option maxHeartbeats 2000000 in
theorem l22Sides_any (B : Nat) (w : World) (hs : Src w B) : Calls Tryz.prog 166 #[.pointer (some ⟨B, 0, none⟩)] w (DrawSd B w) := by
  have hB := hs.lt
  have he := OLeft.empty w
  have k0 := (Keeps.refl w).alloc (.cells #[] 9)
  have D0 := Dr.of hs k0
  go_enter Tryz.func166, Tryz.ntmps166
  go_wp2_with fail
  refine (l01Next_any 3 B _ D0.2 (by omega)).mono ?_; rintro e w1 ⟨r1, rfl, hr1, d1⟩
  have hr1' : r1 < 3 := by omega
  have hL0 : SdLp w B (.slice (some ⟨w.heap.size, 0, none⟩) 0 0) (.int .i64 r1) w1 := ⟨r1, by omega, rfl, _, _, _, _, [], rfl, he.dr d1 hB, okL_nil, by simp, by simp, by simp [wts], D0.trans d1⟩
  clear he
  go_wp2_with fail
  go_loopw [4, 5] (fun o i' wr => SdLp w B o i' wr) (fun _ i _ => (intOf i).toNat)
  case atStart => exact hL0
  case round =>
    obtain ⟨k, hk, rfl, b, off, n, cap, R, rfl, hR, hok, hl5, hlen, hwt, D⟩ := hrel
    clear hL0
    have hsz := D.size
    by_cases h0 : 0 < k
    · have h0' : (0 : Int) < k := by omega
      go_wp2_with fail
      refine (l01Next_any 5 B wr D.2 (by omega)).mono ?_; rintro e w2 ⟨r2, rfl, hr2, d2⟩
      have D2 := D.trans d2
      have HD := hid (l02DrawF_any B 3 (by omega) (1 + r2) (by omega) w2 D2.2)
      have hc2 : ((1 + r2 : Nat) : Int) = 1 + (r2 : Int) := by omega
      rw [hc2] at HD
      go_wp2_with fail
      refine HD.out.mono ?_; rintro e w3 ⟨v3, t3, rfl, hv3, hl3, ok3, d3⟩
      have D3 := D2.trans d3
      have HT := hid (l02Text_any t3 ok3.1 ok3.2 (by omega) v3 w3 (hv3.nds (by omega)))
      have hR3 := (hR.dr d2 hB).dr d3 hB
      clear hR hv3
      go_wp2_with fail
      refine HT.out.mono ?_; rintro e w4 ⟨s4, rfl, hs4, k4⟩
      have D4 := D3.keeps k4
      have HI := hid (l02Insert_any R t3 b off n cap s4 w.heap.size w4 (hR3.keeps k4) hs4 (fun a ha => (hok a ha).1) ok3.1 (by omega) D4.size)
      clear hR3
      go_wp2_with fail
      refine HI.out.mono ?_; rintro e w5 ⟨b5, o5, n5, c5, R5, rfl, hR5, hm5, hw5, hl5', k5⟩
      have w3' := wt5 (c := t3) (by omega)
      have hok5 : OkL R5 := fun a ha => ((hm5 a).1 ha).elim (hok a) (fun e => e ▸ ok3)
      have hl55 : ∀ a ∈ R5, a.enc.length ≤ 5 := fun a ha => ((hm5 a).1 ha).elim (hl5 a) (fun e => by rw [e]; omega)
      have hS : SdAt w B (2 - (k - 1)) (.slice (some ⟨b5, o5, none⟩) n5 c5) w5 := ⟨_, _, _, _, R5, rfl, hR5, hok5, hl55, by omega, by omega, D4.keeps k5⟩
      clear hR5 hm5 hok5 hl55 hw5
      go_wp2_with fail
      go_roundw
      case rel => exact ⟨k - 1, by omega, by go_num, hS⟩
      case measure => simp [intOf]; omega
    · obtain rfl : k = 0 := by omega
      go_wp2_with fail
      refine (l01Next_any 6 B wr D.2 (by omega)).mono ?_; rintro e w2 ⟨r2, rfl, hr2, d2⟩
      have D2 := D.trans d2
      have HD := hid (l02DrawF_any B 3 (by omega) (1 + r2) (by omega) w2 D2.2)
      have hc2 : ((1 + r2 : Nat) : Int) = 1 + (r2 : Int) := by omega
      rw [hc2] at HD
      go_wp2_with fail
      refine HD.out.mono ?_; rintro e w3 ⟨v3, t3, rfl, hv3, hl3, ok3, d3⟩
      have D3 := D2.trans d3
      have HT := hid (l02Text_any t3 ok3.1 ok3.2 (by omega) v3 w3 (hv3.nds (by omega)))
      have hR3 := (hR.dr d2 hB).dr d3 hB
      clear hR hv3
      go_wp2_with fail
      refine HT.out.mono ?_; rintro e w4 ⟨s4, rfl, hs4, k4⟩
      have hR4 := hR3.keeps k4
      clear hR3
      go_wp2_with fail
      go_ret2
      exact ⟨_, s4, t3, rfl, ⟨_, _, _, _, R, rfl, hR4, hok, hl5, by omega, by omega, D3.keeps k4⟩, hs4, ok3, by omega⟩
end Go.Proofs.YtpbbfoliabgkpaaGreat
