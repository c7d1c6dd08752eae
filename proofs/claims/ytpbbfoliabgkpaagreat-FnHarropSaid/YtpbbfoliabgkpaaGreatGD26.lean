/- Draws of sequents with a proof. -/
import Derived.Test.YtpbbfoliabgkpaaGreatGD25
namespace Go.Proofs.YtpbbfoliabgkpaaGreat
open Go.RowKit
/-- a left side that is made -/
def MadeLf (w : World) (m : Nat) (e : Ending) (w' : World) : Prop := ∃ b off n cap R, e = .returned (.slice (some ⟨b, off, none⟩) n cap) ∧ OLeft w' w.heap.size (.slice (some ⟨b, off, none⟩) n cap) R ∧ R.length ≤ m ∧ Keeps w w'
/-- what holds while texts are inserted -/
def WithLp (w : World) (o i' : Value) (wr : World) : Prop := ∃ k : Nat, k ≤ 2 ∧ i' = .int .i64 k ∧ ∃ b off n cap R, o = .slice (some ⟨b, off, none⟩) n cap ∧ OLeft wr w.heap.size (.slice (some ⟨b, off, none⟩) n cap) R ∧ (∀ a ∈ R, a.wf) ∧ R.length ≤ k ∧ Keeps w wr
--
set_option maxRecDepth 20000 in
set_option maxHeartbeats 2000000 in
theorem l22With_two (x y : Fm) (hx : OkF x) (hy : OkF y) (sx sy : ByteArray) (b0 : Nat) (v : Value) (w : World) (hsx : bts sx = x.body) (hsy : bts sy = y.body) (hv : Strs w v [sx, sy]) :
    Calls Tryz.prog 236 #[.slice (some ⟨b0, 0, none⟩) 0 0, v] w (MadeLf w 2) := by
  obtain ⟨p, cap, rfl, hc1, hc2, _⟩ := hv.shape
  obtain ⟨b, off, rfl, hcell0⟩ := hv.get 0 (by simp)
  obtain ⟨b', off', hp, hcell1⟩ := hv.get 1 (by simp)
  cases hp
  simp only [List.length_cons, List.length_nil, Nat.zero_add, Nat.reduceAdd, List.getElem_cons_zero, List.getElem_cons_succ, Nat.add_zero] at *
  have he := OLeft.empty w
  have k0 := (Keeps.refl w).alloc (.cells #[] 9)
  clear hv
  go_enter Tryz.func236, Tryz.ntmps236
  go_wp2_with fail
  go_loopw [5, 6] (fun o i' wr => WithLp w o i' wr) (fun _ i _ => 2 - (intOf i).toNat)
  case atStart => exact ⟨0, by omega, rfl, _, _, _, _, [], rfl, he, by simp, by simp, k0⟩
  case round =>
    obtain ⟨k, hk, rfl, b1, o1, n1, c1, R, rfl, hR, hwf, hlen, kw⟩ := hrel
    clear he k0
    have hx0 := kw.cell hcell0
    have hx1 := kw.cell hcell1
    have hk' : k = 0 ∨ k = 1 ∨ k = 2 := by omega
    rcases hk' with rfl | rfl | rfl
    · have HI := hid (l02Insert_any R x b1 o1 n1 c1 sx w.heap.size wr hR hsx hwf hx.1 (by omega) kw.size)
      clear hR
      go_wp2_with fail
      refine HI.out.mono ?_; rintro e w5 ⟨b5, o5, n5, c5, R5, rfl, hR5, hm5, hw5, hl5', k5⟩
      have hwf5 : ∀ a ∈ R5, a.wf := fun a ha => ((hm5 a).1 ha).elim (hwf a) (fun e => e ▸ hx.1)
      have HR := hid (And.intro hR5 (And.intro hwf5 hl5'))
      clear hR5 hm5 hw5 hwf5 hl5'
      go_wp2_with fail
      go_roundw
      case rel => exact ⟨1, by omega, by go_num, _, _, _, _, R5, rfl, HR.out.1, HR.out.2.1, by have := HR.out.2.2; omega, kw.trans k5⟩
      case measure => simp [intOf]
    · have HI := hid (l02Insert_any R y b1 o1 n1 c1 sy w.heap.size wr hR hsy hwf hy.1 (by omega) kw.size)
      clear hR
      go_wp2_with fail
      refine HI.out.mono ?_; rintro e w5 ⟨b5, o5, n5, c5, R5, rfl, hR5, hm5, hw5, hl5', k5⟩
      have hwf5 : ∀ a ∈ R5, a.wf := fun a ha => ((hm5 a).1 ha).elim (hwf a) (fun e => e ▸ hy.1)
      have HR := hid (And.intro hR5 (And.intro hwf5 hl5'))
      clear hR5 hm5 hw5 hwf5 hl5'
      go_wp2_with fail
      go_roundw
      case rel => exact ⟨2, by omega, by go_num, _, _, _, _, R5, rfl, HR.out.1, HR.out.2.1, by have := HR.out.2.2; omega, kw.trans k5⟩
      case measure => simp [intOf]
    · go_wp2_with fail
      go_ret
      exact ⟨_, _, _, _, R, rfl, hR, hlen, kw⟩
/-- what is told of the right side that is drawn -/
def DrawSq (B : Nat) (w : World) (e : Ending) (w' : World) : Prop := ∃ b off n cap R sr t, e = .returned (.tuple #[.slice (some ⟨b, off, none⟩) n cap, .string sr]) ∧ OLeft w' w.heap.size (.slice (some ⟨b, off, none⟩) n cap) R ∧ R.length ≤ 2 ∧ bts sr = Fm.body t ∧ OkF t ∧ t.enc.length ≤ 22 ∧ Dr B w w'
theorem wt22 {c : Fm} (h : c.enc.length ≤ 22) : wt c ≤ 5000000 := by
  have h1 := wt_le_pow c
  have h2 : 2 ^ c.enc.length ≤ 2 ^ 22 := Nat.pow_le_pow_right (by omega) h
  omega
--
set_option maxRecDepth 20000 in
set_option maxHeartbeats 2000000 in
theorem l22Theorem_any (B : Nat) (w : World) (hs : Src w B) : Calls Tryz.prog 165 #[.pointer (some ⟨B, 0, none⟩)] w (DrawSq B w) := by
  have hB := hs.lt
  go_enter Tryz.func165, Tryz.ntmps165
  go_wp2_with fail
  go_loopw [4] (fun i' wr => ∃ k : Nat, k ≤ 12 ∧ i' = .int .i64 k ∧ Dr B w wr) (fun i _ => 12 - (intOf i).toNat)
  case atStart => exact ⟨0, by omega, rfl, Dr.of hs (Keeps.refl w)⟩
  case round =>
    obtain ⟨k, hk, rfl, D⟩ := hrel
    have hsz := D.size
    by_cases hlt : k < 12
    · have hlt' : (k : Int) < 12 := by omega
      go_wp2_with fail
      refine (l22Sides_any B wr D.2).mono ?_; rintro e w2 ⟨o, sr, t, rfl, ⟨b, off, n, cap, R, rfl, hR, hok, hl5, hlen, hwt, d2⟩, hsr, okt, hlt22⟩
      have D2 := D.trans d2
      have ht22 := wt22 hlt22
      have HK := hid (l23Ok_any R t hok okt (fun a ha => by have := hl5 a ha; omega) (by omega) (by omega) (by omega) sr _ w2 hR.left hsr)
      have HR := hid hR
      clear hR
      go_wp2_with fail
      refine HK.out.mono ?_; rintro e w3 ⟨rfl, k3⟩
      generalize hQ : sqB R t = Q at *
      clear hQ HK
      cases Q with
      | true =>
        go_wp2_with fail
        go_ret2
        exact ⟨_, _, _, _, R, sr, t, rfl, (HR.out.keeps k3).mono hsz, hlen, hsr, okt, hlt22, D2.keeps k3⟩
      | false =>
        go_wp2_with fail
        go_roundw
        case rel => exact ⟨k + 1, by omega, by go_num, D2.keeps k3⟩
        case measure => simp [intOf]; omega
    · obtain rfl : k = 12 := by omega
      have H1 := hid (fun w2 (h : Src w2 B) => l02DrawF_any B 2 (by omega) 3 (by omega) w2 h)
      go_wp2_with fail
      refine (H1.out wr D.2).mono ?_; rintro e w2 ⟨v2, t2, rfl, hv2, hl2, ok2, d2⟩
      have D2 := D.trans d2
      have HT := hid (l02Text_any t2 ok2.1 ok2.2 (by omega) v2 w2 (hv2.nds (by omega)))
      clear hv2
      go_wp2_with fail
      refine HT.out.mono ?_; rintro e w3 ⟨s3, rfl, hs3, k3⟩
      have D3 := D2.keeps k3
      go_wp2_with fail
      refine (H1.out w3 D3.2).mono ?_; rintro e w4 ⟨v4, t4, rfl, hv4, hl4, ok4, d4⟩
      have D4 := D3.trans d4
      have HT4 := hid (l02Text_any t4 ok4.1 ok4.2 (by omega) v4 w4 (hv4.nds (by omega)))
      clear hv4
      go_wp2_with fail
      refine HT4.out.mono ?_; rintro e w5 ⟨s5, rfl, hs5, k5⟩
      have D5 := D4.keeps k5
      have ka := (Keeps.refl w5).alloc (.cells #[] 9)
      have kb := ka.alloc (.cells #[.string s3, .string s5] 9)
      have HL := hid (Strs.lit2 (w5.alloc (.cells #[] 9)) s3 s5)
      have hx1 : (w5.alloc (.cells #[] 9)).heap.size = w5.heap.size + 1 := by simp
      rw [hx1] at HL
      have HW := hid (l22With_two t2 t4 ok2 ok4 s3 s5 w5.heap.size _ _ hs3 hs5 HL.out)
      go_wp2_with fail
      refine HW.out.mono ?_; rintro e w6 ⟨b, off, n, cap, R, rfl, hR, hlen, k6⟩
      have D6 := (D5.keeps kb).keeps k6
      go_wp2_with fail
      go_ret2
      exact ⟨_, _, _, _, R, s3, t2, rfl, hR.mono (D5.keeps kb).size, hlen, hs3, ok2, by omega, D6⟩
end Go.Proofs.YtpbbfoliabgkpaaGreat
