/- Texts of plain formulas, and one text that is none. -/
import Derived.Test.YtpbbfoliabgkpaaGreatGY9
namespace Go.Proofs.YtpbbfoliabgkpaaGreat
open Go.RowKit
set_option maxRecDepth 20000 in
set_option maxHeartbeats 1000000 in
/-- one part is read as a conjunction -/
theorem iAnd1 (t : Fm) (X : List UInt8) (hx : Reads 337 3 t X) : Reads 319 2 t X := by
  intro w r s i rest h hd hst hlen
  have H0 := hid (hx w r s i _ h hd (hst.up (by omega)) hlen)
  have hd1 := drop_more hd
  have hne := hst.1 (by omega)
  clear hd hst hx h
  go_enter Tryz.func319, Tryz.ntmps319
  go_wp2_with fail
  refine H0.out.mono ?_; rintro e w1 ⟨v1, rfl, hv1, h1, g1⟩
  have HM := hid (take_miss (k := 38) 38 h1 hd1 hne rfl)
  clear H0
  go_wp2_with fail
  go_loopw [3] (fun a' wr => a' = v1 ∧ wr = w1) (fun _ _ => 0)
  case atStart => exact ⟨rfl, rfl⟩
  case round =>
    obtain ⟨rfl, rfl⟩ := hrel
    go_wp2_with fail
    refine HM.out.mono ?_; rintro e w2 ⟨rfl, h2, k2⟩
    go_wp2_with fail
    go_ret
    exact ⟨_, rfl, hv1.keeps k2, h2, grown_keeps g1 k2⟩
set_option maxRecDepth 20000 in
set_option maxHeartbeats 1000000 in
/-- one part is read as a disjunction -/
theorem iOr1 (t : Fm) (X : List UInt8) (hx : Reads 319 2 t X) : Reads 272 1 t X := by
  intro w r s i rest h hd hst hlen
  have H0 := hid (hx w r s i _ h hd (hst.up (by omega)) hlen)
  have hd1 := drop_more hd
  have hne := hst.2.1 (by omega)
  clear hd hst hx h
  go_enter Tryz.func272, Tryz.ntmps272
  go_wp2_with fail
  refine H0.out.mono ?_; rintro e w1 ⟨v1, rfl, hv1, h1, g1⟩
  have HM := hid (take_miss (k := 124) 124 h1 hd1 hne rfl)
  clear H0
  go_wp2_with fail
  go_loopw [3] (fun a' wr => a' = v1 ∧ wr = w1) (fun _ _ => 0)
  case atStart => exact ⟨rfl, rfl⟩
  case round =>
    obtain ⟨rfl, rfl⟩ := hrel
    go_wp2_with fail
    refine HM.out.mono ?_; rintro e w2 ⟨rfl, h2, k2⟩
    go_wp2_with fail
    go_ret
    exact ⟨_, rfl, hv1.keeps k2, h2, grown_keeps g1 k2⟩
/-- a formula between brackets is read, too -/
theorem iParen (t : Fm) (hw : t.wf) : Reads 239 0 t (40 :: (t.body ++ [41])) :=
  iImply0 t _ (iOr1 t _ (iAnd1 t _ (iPar t (implReads t hw))))
set_option maxRecDepth 20000 in
set_option maxHeartbeats 1000000 in
theorem ParseFormula_X (t : Fm) (X : List UInt8) (hX : Reads 239 0 t X) (s : ByteArray) (w : World) (hb : bts s = X) (hs : s.size ≤ 200) (hl : t.enc.length ≤ 40) :
    Calls Tryz.prog 170 #[.string s] w fun e w' => ∃ v, e = .returned (.tuple #[v, .int .i64 0, .int .i64 0]) ∧ OwnN w' w.heap.size v t.enc ∧ Keeps w w' := by
  have h0 := RdAt.new w s 183 (by omega)
  have hlen : X.length = s.size := by rw [← hb]; show s.data.toList.length = s.data.size; simp
  have HR := hid (hX _ _ s 0 [] h0 (by simpa using hb) ⟨fun _ => by simp, fun _ => by simp, fun _ => by simp⟩ (by omega))
  have hlt : decide ((s.size : Int) < s.size) = false := by simp
  have hs' : decide ((s.size : Int) > 200) = false := by simp; omega
  have k0 := (Keeps.refl w).alloc (.cells #[.string s, .int .i64 0, .bool false] 183)
  have HL := hid hlen; clear hlen
  clear hb h0
  go_enter Tryz.func170, Tryz.ntmps170
  go_wp2_with fail
  refine HR.out.mono ?_; rintro e w1 ⟨v1, rfl, hv1, h1, g1⟩
  rw [Nat.zero_add, HL.out] at h1
  have kw := k0.grown g1 (fun k hk => by cases hk; exact Nat.le_refl _)
  obtain ⟨c0, c1, c2, f1, f2, le, sz⟩ := h1
  obtain ⟨p1, n1, q1, rfl⟩ : ∃ p n c, v1 = .slice p n c := by obtain ⟨p, c, e, _⟩ := At.of_own hv1; exact ⟨p, _, c, e⟩
  have hn1 : n1 = t.enc.length := by obtain ⟨p, c, e, _⟩ := At.of_own hv1; cases e; rfl
  have hl1 : decide ((n1 : Int) > 40) = false := by simp; omega
  have HN1 := hid hn1; clear hn1
  go_wp2_with fail
  refine bodyPost_ret (v := .tuple #[.slice p1 n1 q1, .int .i64 0, .int .i64 0]) (by simp [results, Tryz.results170, go_sem]) rfl ?_
  exact ⟨_, rfl, hv1.mono (by simp), kw⟩
/-- a text that is read as a tree -/
def TxX (s : ByteArray) (t : Fm) : Prop := s.size ≤ 200 ∧ (bts s = t.body ∨ bts s = 40 :: (t.body ++ [41]))
set_option maxRecDepth 20000 in
theorem parsed_X (t : Fm) (hw : t.wf) (s : ByteArray) (w : World) (hs : TxX s t) (hl : t.enc.length ≤ 40) :
    Calls Tryz.prog 72 #[.string s] w (RetN w t.enc) := by
  have HR : Hid (Calls Tryz.prog 170 #[.string s] w fun e w' => ∃ v, e = .returned (.tuple #[v, .int .i64 0, .int .i64 0]) ∧ OwnN w' w.heap.size v t.enc ∧ Keeps w w') := by
    rcases hs.2 with h | h
    · exact ParseFormula_X t _ (implReads t hw) s w h hs.1 hl
    · exact ParseFormula_X t _ (iParen t hw) s w h hs.1 hl
  go_enter Tryz.func72, Tryz.ntmps72
  go_wp2_with fail
  refine HR.out.mono ?_; rintro e w1 ⟨v1, rfl, hv1, k1⟩
  go_wp2_with fail
  go_ret
  exact ⟨_, rfl, hv1, k1⟩
theorem enc_posT (t : Fm) : 1 ≤ t.enc.length := by cases t <;> simp [Fm.enc]
theorem paren_ne (t : Fm) : t.body ≠ 40 :: (t.body ++ [41]) := fun h => by
  have := congrArg List.length h
  simp at this
  omega
--
set_option maxRecDepth 20000 in
set_option maxHeartbeats 1000000 in
theorem isText_any (t : Fm) (hw : t.wf) (s : ByteArray) (w : World) (hs : TxX s t) (hl : t.enc.length ≤ 40) :
    Calls Tryz.prog 168 #[.string s] w fun e w' => e = .returned (.bool (decide (bts s = t.body))) ∧ Keeps w w' := by
  have HP := hid (parsed_X t hw s w hs hl)
  have HT := hid (fun v w2 (hv : Nds w2 v t.enc) => text_any t hw (by omega) v w2 hv)
  have hpos := enc_posT t
  go_enter Tryz.func168, Tryz.ntmps168
  go_wp2_with fail
  refine HP.out.mono ?_; rintro e w1 ⟨v1, rfl, hv1, k1⟩
  obtain ⟨g, cap, rfl, _⟩ := hv1.shape hpos
  have HV := hid (hv1.nds (by omega))
  clear hv1
  go_wp2_with fail
  refine (HT.out _ w1 HV.out).mono ?_; rintro e w2 ⟨s2, rfl, hs2, k2⟩
  go_wp2_with fail
  go_ret
  have he : (s2.toList == s.toList) = decide (bts s = t.body) := by
    rw [beq_bts, hs2, Bool.eq_iff_iff, decide_eq_true_iff, decide_eq_true_iff]
    exact ⟨fun h => h.symm, fun h => h.symm⟩
  exact ⟨by rw [← he]; rfl, k1.trans k2⟩
--
set_option maxRecDepth 20000 in
set_option maxHeartbeats 1000000 in
theorem isPlainText_any (t : Fm) (ht : OkF t) (s : ByteArray) (w : World) (hs : TxX s t) (hl : t.enc.length ≤ 40) :
    Calls Tryz.prog 70 #[.string s] w fun e w' => e = .returned (.bool (decide (bts s = t.body))) ∧ Keeps w w' := by
  have HT := hid (isText_any t ht.1 s w hs hl)
  have HP := hid (fun w2 => parsed_X t ht.1 s w2 hs hl)
  have hpl : plainL t.enc = true := by rw [plainL_enc]; exact ht.2
  have HI := hid (fun v w2 (hv : Nds w2 v t.enc) => isPlain_any t.enc v w2 hv)
  rw [hpl] at HI
  by_cases h : bts s = t.body
  · rw [decide_eq_true h] at HT ⊢
    clear h hs
    go_enter Tryz.func70, Tryz.ntmps70
    go_wp2_with fail
    refine HT.out.mono ?_; rintro e w1 ⟨rfl, k1⟩
    go_wp2_with fail
    refine (HP.out w1).mono ?_; rintro e w2 ⟨v2, rfl, hv2, k2⟩
    have HV := hid (hv2.nds (by omega))
    clear hv2
    go_wp2_with fail
    refine (HI.out _ w2 HV.out).mono ?_; rintro e w3 ⟨rfl, k3⟩
    go_wp2_with fail
    go_ret
    exact ⟨rfl, (k1.trans k2).trans k3⟩
  · rw [decide_eq_false h] at HT ⊢
    clear h hs
    go_enter Tryz.func70, Tryz.ntmps70
    go_wp2_with fail
    refine HT.out.mono ?_; rintro e w1 ⟨rfl, k1⟩
    go_wp2_with fail
    go_ret
    exact ⟨rfl, k1⟩
end Go.Proofs.YtpbbfoliabgkpaaGreat
