/- One text as a left side; ProvedDisjunct behind one formula. -/
import Derived.Test.YtpbbfoliabgkpaaGreatGD22
namespace Go.Proofs.YtpbbfoliabgkpaaGreat
open Go.RowKit
--
set_option maxRecDepth 20000 in
set_option maxHeartbeats 1000000 in
theorem isLeft_one (t : Fm) (ht : OkF t) (s : ByteArray) (v : Value) (w : World) (hb : bts s = t.body) (hs : s.size ≤ 200) (hl : t.enc.length ≤ 40) (hv : Strs w v [s]) :
    Calls Tryz.prog 237 #[v] w fun e w' => e = .returned (.bool true) ∧ Keeps w w' := by
  have HP := hid (fun w2 => isPlainText_any t ht s w2 ⟨hs, .inl hb⟩ hl)
  rw [decide_eq_true hb] at HP
  obtain ⟨p, cap, rfl, hc1, hc2, _⟩ := hv.shape
  obtain ⟨b, off, rfl, hcell⟩ := hv.get 0 (by simp)
  simp only [List.length_singleton, Nat.add_zero, List.getElem_cons_zero] at *
  clear hv hb
  go_enter Tryz.func237, Tryz.ntmps237
  go_wp2_with fail
  go_loopw [7] (fun i' wr => ∃ k : Nat, k ≤ 1 ∧ i' = .int .i64 k ∧ Keeps w wr) (fun i _ => 1 - (intOf i).toNat)
  case atStart => exact ⟨0, by omega, rfl, Keeps.refl w⟩
  case round =>
    obtain ⟨k, hk, rfl, kw⟩ := hrel
    have hcr := kw.cell hcell
    have hk' : k = 0 ∨ k = 1 := by omega
    rcases hk' with rfl | rfl
    · go_wp2_with fail
      refine (HP.out _).mono ?_; rintro e w2 ⟨rfl, k2⟩
      go_wp2_with fail
      go_roundw
      case rel => exact ⟨1, by omega, by go_num, kw.trans k2⟩
      case measure => simp [intOf]
    · go_wp2_with fail
      go_ret
      exact ⟨rfl, kw⟩
--
set_option maxRecDepth 20000 in
set_option maxHeartbeats 1000000 in
theorem isSequent_one (t c : Fm) (ht : OkF t) (hc : OkF c) (s sc : ByteArray) (v : Value) (w : World) (hb : bts s = t.body) (hs : s.size ≤ 200) (hl : t.enc.length ≤ 40) (hv : Strs w v [s]) (hsc : TxX sc c) (hlc : c.enc.length ≤ 40) :
    Calls Tryz.prog 69 #[v, .string sc] w fun e w' => e = .returned (.bool (decide (bts sc = c.body))) ∧ Keeps w w' := by
  have HL := hid (fun w2 (k : Keeps w w2) => isLeft_one t ht s v w2 hb hs hl (hv.keeps k))
  have HC := hid (fun w2 => isPlainText_any c hc sc w2 hsc hlc)
  obtain ⟨p, cap, rfl, hc1, hc2, _⟩ := hv.shape
  simp only [List.length_singleton] at *
  have HS : Hid (Calls Tryz.prog 167 #[.slice p 1 cap] w fun e w' => e = .returned (.bool true) ∧ Keeps w w') := by
    go_enter Tryz.func167, Tryz.ntmps167
    go_wp2_with fail
    refine (HL.out _ (Keeps.refl w)).mono ?_; rintro e w2 ⟨rfl, k2⟩
    go_wp2_with fail
    go_ret
    exact ⟨rfl, k2⟩
  clear hv hb hs hsc
  go_enter Tryz.func69, Tryz.ntmps69
  go_wp2_with fail
  refine HS.out.mono ?_; rintro e w2 ⟨rfl, k2⟩
  go_wp2_with fail
  refine (HC.out w2).mono ?_; rintro e w3 ⟨rfl, k3⟩
  go_wp2_with fail
  go_ret
  exact ⟨rfl, k2.trans k3⟩
--
set_option maxRecDepth 20000 in
set_option maxHeartbeats 1000000 in
theorem nodesOf_one (t : Fm) (ht : OkF t) (s : ByteArray) (v : Value) (w : World) (hb : bts s = t.body) (hs : s.size ≤ 200) (hl : t.enc.length ≤ 40) (hv : Strs w v [s]) :
    Calls Tryz.prog 73 #[v] w fun e w' => e = .returned (.int .i64 t.enc.length) ∧ Keeps w w' := by
  have HP := hid (fun w2 => parsed_X t ht.1 s w2 ⟨hs, .inl hb⟩ hl)
  obtain ⟨p, cap, rfl, hc1, hc2, _⟩ := hv.shape
  obtain ⟨b, off, rfl, hcell⟩ := hv.get 0 (by simp)
  simp only [List.length_singleton, Nat.add_zero, List.getElem_cons_zero] at *
  clear hv hb
  go_enter Tryz.func73, Tryz.ntmps73
  go_wp2_with fail
  go_loopw [3, 8] (fun c i' wr => ∃ k : Nat, k ≤ 1 ∧ i' = .int .i64 k ∧ c = .int .i64 ((k * t.enc.length : Nat) : Int) ∧ Keeps w wr) (fun _ i _ => 1 - (intOf i).toNat)
  case atStart => exact ⟨0, by omega, rfl, by simp, Keeps.refl w⟩
  case round =>
    obtain ⟨k, hk, rfl, rfl, kw⟩ := hrel
    have hcr := kw.cell hcell
    have hk' : k = 0 ∨ k = 1 := by omega
    rcases hk' with rfl | rfl
    · go_wp2_with fail
      refine (HP.out _).mono ?_; rintro e w2 ⟨v2, rfl, hv2, k2⟩
      obtain ⟨p2, n2, q2, rfl, hn2⟩ : ∃ p n c, v2 = .slice p n c ∧ n = t.enc.length := by obtain ⟨p, c, e, _⟩ := At.of_own hv2; exact ⟨p, _, c, e, rfl⟩
      subst hn2
      go_wp2_with fail
      go_roundw
      case rel => exact ⟨1, by omega, by go_num, by simp, kw.trans k2⟩
      case measure => simp [intOf]
    · go_wp2_with fail
      go_ret
      exact ⟨by simp, kw⟩
end Go.Proofs.YtpbbfoliabgkpaaGreat
