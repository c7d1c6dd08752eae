import Derived.Test.YtikooimokfbffaaGreatDoorHR
import Derived.Test.YtikooimokfbffaaGreatDoorHHM
import Derived.Test.YtikooimokfbffaaGreatDoorHOD
import Derived.Test.YtikooimokfbffaaGreatDoorHK1
/- FnTheorems: a theorem of a logic is valid on its orders, theorems of a logic are theorems of those it is below, and all theorems are classical ones. -/
namespace Go.Proofs.YtikooimokfbffaaGreatDoor
open Go.RowKit
def namesO : List ByteArray := [⟨#[73, 110, 116]⟩, ⟨#[75, 67]⟩, ⟨#[76, 67]⟩, ⟨#[83, 109, 76]⟩, ⟨#[67, 76]⟩]
theorem namesO_at : ∀ i (h : i < namesO.length), namesO[i] = nameK (ordK.getD i 0) := by
 intro i h
 have h5 : i < 5 := h
 match i, h5 with
 | 0, _ => rfl
 | 1, _ => rfl
 | 2, _ => rfl
 | 3, _ => rfl
 | 4, _ => rfl
theorem ordK_ok : ∀ i, i < 5 → ThK (ordK.getD i 0) := by
 intro i h
 match i, h with
 | 0, _ => exact .inr (.inr (.inl rfl))
 | 1, _ => exact .inr (.inr (.inr (.inl rfl)))
 | 2, _ => exact .inr (.inr (.inr (.inr (.inl rfl))))
 | 3, _ => exact .inr (.inr (.inr (.inr (.inr rfl))))
 | 4, _ => exact .inr (.inl rfl)
noncomputable def bfO (t : Fm) (i : Nat) : Bool := if i = 0 then false else thV (ordK.getD (i - 1) 0) t
theorem bfO_next {t : Fm} (hw : t.wf) {i : Nat} (hi : i < 5) (h : bfO t i = true) : thV (ordK.getD i 0) t = true := by
 unfold bfO at h
 by_cases e : i = 0
 ·rw [if_pos e] at h; cases h
 ·rw [if_neg e] at h
  have := th_next hw (i - 1) (by omega) h
  rwa [show i - 1 + 1 = i by omega] at this
theorem bfO_succ (t : Fm) (i : Nat) : bfO t (i + 1) = thV (ordK.getD i 0) t := by unfold bfO; rw [if_neg (by omega)]; rfl
def AskO (t : Fm) (s : ByteArray) (w : World) (x : Bool) : Prop := ∃ c : Int, (c = 0 ∨ c = 3) ∧ ∀ wz v, Keeps w wz → Nds wz v t.enc → Calls Tryz.prog 9 #[.string s, v] wz (RetBC wz (if c = 0 then x else false) c)
theorem askO {k : Nat} (hk : ThK k) (t : Fm) (hw : t.wf) (ha : isFm t.enc = true) (hln : t.enc.length ≤ 40) (hpl : t.plain = true) (w : World) (hL : LaidS 1 names9 w) : AskO t (nameK k) w (thV k t) := by
 obtain ⟨c, hc, _, h1, _⟩ := th_named hk t hw ha hln hpl
 exact ⟨c, hc, fun wz v kz hz => h1 v wz hz (hL.keeps kz)⟩
def FoundO (k : Nat) (t : Fm) (w0 : World) (e : Ending) (w' : World) : Prop := RetPC w0 [] 3 e w' ∨ RetPC w0 [] 4 e w' ∨ ∃ b, Pos b ∧ ofK b k = true ∧ vldR b t = false ∧ capB b t = true ∧ RetPC w0 b 0 e w'
set_option maxRecDepth 20000 in
theorem foundO {k : Nat} (hk : k < 9) (t : Fm) (hw : t.wf) (ha : isFm t.enc = true) (hln : t.enc.length ≤ 40) (hpl : t.plain = true) (hs : findS names9 (nameK k) = (k : Int)) (v : Value) (w : World) (hv : Nds w v t.enc) (hL : LaidS 1 names9 w) :
  Calls Tryz.prog 19 #[.string (nameK k), v] w (FoundO k t w) := by
 refine (refI_4 (nameK k) k hk rfl t hw v w hv ha hln hs hpl hL).mono ?_
 intro e w' h
 by_cases h3 : 3 < (varL t).length
 ·rw [if_pos h3] at h
  exact .inl h
 ·rw [if_neg h3] at h
  cases hf : smallR.find? (rfQ k t) with
  | none => rw [hf] at h; exact .inr (.inl h)
  | some b =>
   rw [hf] at h
   have hq := List.find?_some hf
   obtain ⟨hp, h4⟩ := smallR_Pos (List.mem_of_find?_eq_some hf)
   unfold rfQ at hq
   rw [Bool.and_eq_true, Bool.not_eq_true'] at hq
   exact .inr (.inr ⟨b, hp, hq.1, hq.2, decide_eq_true (cap_ok h4 (by omega)), h⟩)
theorem isPosO {b : List Nat} (hp : Pos b) {k : Nat} (hs : findS names9 (nameK k) = (k : Int)) (ho : ofK b k = true) (v : Value) (w : World) (hv : Ints w v (zs b)) (hL : LaidS 1 names9 w) :
  Calls Tryz.prog 13 #[.agg #[.int .i64 b.length, v], .string (nameK k)] w (RetBC w true 0) := by
 refine (implIsPosetOf b.length (zs b) (nameK k) v w hv hL).mono ?_
 intro e w' ⟨he, hk⟩
 refine ⟨?_, hk⟩
 rw [he]
 unfold poR poC
 rw [if_pos hp.isPos, if_pos hp.isPos, hs, if_pos (by omega), if_pos (by omega), zs_toNat]
 show Ending.returned (.tuple #[.bool (ofK b k), .int .i64 0]) = _
 rw [ho]
theorem vldO {b : List Nat} (hp : Pos b) (t : Fm) (hw : t.wf) (ha : isFm t.enc = true) (hln : t.enc.length ≤ 40) (hpl : t.plain = true) (hc : capB b t = true) (hv : vldR b t = false) (pv v : Value) (w : World) (hpv : Ints w pv (zs b)) (hn : Nds w v t.enc) :
  Calls Tryz.prog 16 #[.agg #[.int .i64 b.length, pv], v] w (RetBC w false 0) := by
 refine (implIsPosetValid_any b hp t hw ha hln hpl pv v w hpv hn).mono ?_
 intro e w' ⟨he, hk⟩
 rw [hc, hv] at he
 exact ⟨he, hk⟩
set_option maxRecDepth 20000 in
set_option maxHeartbeats 4000000 in
theorem lawTheorems (v : Value) (n : Nat) (w : World) (hv : Bts w v n) (hL : LaidS 1 names9 w) : Calls Tryz.prog 5 #[v] w fun e w' => e = .returned (.bool true) ∧ Keeps w w' := by
 have HBG := hid (big_any v n w hv)
 have HD := hid (fun (h : n ≤ 4096) => drawIsTheoremOf_any v n w hv h)
 obtain ⟨p, c, rfl, _⟩ := hv
 have HL := hid hL; clear hL
 by_cases hb : 4096 < n
 ·rw [decide_eq_true hb] at HBG
  clear hb HD HL
  go_enter Tryz.func5, Tryz.ntmps5
  go_wp2_with fail
  refine HBG.out.mono ?_; rintro e w' ⟨rfl, rfl⟩
  go_wp2_with fail
  go_ret
  exact ⟨rfl, Keeps.refl _⟩
 rw [decide_eq_false hb] at HBG
 have HD1 := hid (HD.out (by omega)); clear HD hb
 go_enter Tryz.func5, Tryz.ntmps5
 go_wp2_with fail
 refine HBG.out.mono ?_; rintro e w' ⟨rfl, rfl⟩
 go_wp2_with fail
 refine HD1.out.mono ?_; rintro e w1 ⟨s, v1, a, rfl, hs1, hv1, hl1, k1⟩
 have HV1 := hid (hv1.nds (by omega)); clear hv1
 obtain ⟨p1, n1, q1, rfl⟩ := HV1.out.shape
 have HL1 := hid (HL.out.keeps k1)
 obtain ⟨r, c1, hsame, hsays⟩ := th_both s a
 have HI := hid (hsame.1 _ w1 HV1.out HL1.out)
 have HSP := hid (fun wz (kz : Keeps w1 wz) => hsame.2 _ wz (HV1.out.keeps kz))
 have HSY := hid hsays
 have K1 := hid k1
 clear hsame hsays k1 HL
 by_cases hc0 : c1 = 0
 case neg =>
  obtain rfl : r = false := HSY.out.2.1 hc0
  clear HSY
  go_wp2_with fail
  refine HI.out.mono ?_; rintro e w2 ⟨rfl, k2⟩
  go_wp2_with fail
  refine (HSP.out _ k2).mono ?_; rintro e w3 ⟨rfl, k3⟩
  go_wp2_with fail
  go_ret
  exact ⟨rfl, (K1.out.trans k2).trans k3⟩
 subst hc0
 obtain ⟨k, t, rfl, hk, hK, rfl, hw, hpl, ha, hln, h0, rfl⟩ := HSY.out.2.2 rfl
 clear HSY
 have hk9 : k < 9 := by unfold ThK at hK; omega
 have HFO := hid (fun wz (kz : Keeps w1 wz) => foundO hk9 t hw ha hln hpl hk (.slice p1 n1 q1) wz (HV1.out.keeps kz) (HL1.out.keeps kz))
 have HPO := hid (fun b (hp : Pos b) (ho : ofK b k = true) vz wz (kz : Keeps w1 wz) (hz : Ints wz vz (zs b)) => isPosO hp hk ho vz wz hz (HL1.out.keeps kz))
 have HVO := hid (fun b (hp : Pos b) (hc : capB b t = true) (hvl : vldR b t = false) vz wz (kz : Keeps w1 wz) (hz : Ints wz vz (zs b)) => vldO hp t hw ha hln hpl hc hvl vz _ wz hz (HV1.out.keeps kz))
 have HSO := hid (fun b (hp : Pos b) (ho : ofK b k = true) (hvl : vldR b t = false) (h : thV k t = true) => show False from by
  have h9 := th_sound hK h0 hp ho hw h
  rw [hvl] at h9
  cases h9)
 have HX4 := hid (fun (h : thV k t = true) => th_cl hK h0 hw h)
 have HA4 := hid (askO (k := 4) (.inr (.inl rfl)) t hw ha hln hpl w1 HL1.out)
 have HAI := hid (fun i (hi : i < 5) => show AskO t (namesO[i]'hi) w1 (thV (ordK.getD i 0) t) by
  rw [namesO_at i hi]
  exact askO (ordK_ok i hi) t hw ha hln hpl w1 HL1.out)
 have HBN := hid (fun i (hi : i < 5) (h : bfO t i = true) => bfO_next hw hi h)
 have HBS := hid (fun i => bfO_succ t i)
 have HB0 : Hid (bfO t 0 = false) := hid rfl
 have HV := HV1
 clear HV1 HL1 hw hpl ha hln h0 hK hk
 rw [nameK_4] at HA4
 generalize thV 4 t = x4 at *
 obtain ⟨BF, hBF⟩ : ∃ BF : Nat → Bool, ∀ i, BF i = bfO t i := ⟨_, fun _ => rfl⟩
 obtain ⟨TH, hTH⟩ : ∃ TH : Nat → Bool, ∀ i, TH i = thV (ordK.getD i 0) t := ⟨_, fun _ => rfl⟩
 simp only [← hBF, ← hTH] at HAI HBN HBS HB0
 clear hBF hTH
 generalize thV k t = r at *
 generalize nameK k = nm0 at *
 go_wp2_with fail
 refine HI.out.mono ?_; rintro e w2 ⟨rfl, k2⟩
 go_wp2_with fail
 refine (HSP.out _ k2).mono ?_; rintro e w3 ⟨rfl, k3⟩
 have K3 := hid (k2.trans k3)
 clear k2 k3 HI HSP
 cases r
 all_goals
  go_wp2_with fail
  refine (HFO.out _ K3.out).mono ?_; rintro e w4 hf
  rcases hf with h | h | ⟨b, hp, ho, hvl, hcp, h⟩
 ·obtain ⟨v5, rfl, ho5, k5⟩ := h
  obtain ⟨p5, c5, rfl, -, -, -⟩ := At.of_own ho5
  rw [show (zs []).length = 0 from rfl]
  clear ho5
  rw [show ([] : List Nat).length = 0 from rfl]
  have K5 := hid (((K3.out.trans k5).alloc (.cells #[.int .i64 0, .slice p5 0 c5] 34)))
  clear k5
  have h4c := HA4.out
  obtain ⟨c4, hc4, hq4⟩ := h4c
  have HQ4 := hid (hq4 (w4.alloc (.cells #[.int .i64 0, .slice p5 0 c5] 34)) _ K5.out ((HV.out).keeps K5.out))
  clear hq4
  rcases hc4 with rfl | rfl
  all_goals
   skip
   skip
   go_wp2_with fail
   refine HQ4.out.mono ?_; rintro e w20 ⟨rfl, k20⟩
   have K20 := hid ((K5.out).trans k20)
   have hlit : Strs (w20.alloc (.cells (namesO.map Value.string).toArray 9)) (.slice (some ⟨w20.heap.size, 0, none⟩) 5 5) namesO := Strs.lit (w := w20) namesO (by simp [namesO])
   have HS := hid hlit
   have KA := hid (K20.out.alloc (.cells (namesO.map Value.string).toArray 9))
   clear hlit k20
   go_wp2_with fail
   go_loopw [18, 19] (fun s18 s19 wr => ∃ i : Nat, i ≤ 5 ∧ s19 = .int .i64 i ∧ s18 = .bool (BF i) ∧ Keeps (w20.alloc (.cells (namesO.map Value.string).toArray 9)) wr) (fun _ s19 _ => 5 - (intOf s19).toNat)
   case atStart => exact ⟨0, by omega, rfl, by rw [HB0.out], Keeps.refl _⟩
   case round =>
    obtain ⟨i, hi, rfl, rfl, kw⟩ := hrel
    by_cases hlt : i < 5
    ·have hlt' : (i : Int) < 5 := by omega
     obtain ⟨b9, o9, e9, hc9⟩ := (HS.out.keeps kw).get i hlt
     cases e9
     rw [Nat.zero_add] at hc9
     have hai := HAI.out i hlt
     have hbn := HBN.out i hlt
     have hbs := HBS.out i
     have KR := hid (KA.out.trans kw)
     generalize namesO[i] = nm at *
     obtain ⟨ci, hci, hqi⟩ := hai
     have HQI := hid (hqi wr _ KR.out (HV.out.keeps KR.out))
     clear hqi
     have HBS1 := hid hbs
     clear hbs
     generalize BF i = x at *
     generalize TH i = y at *
     rcases hci with rfl | rfl
     ·cases x
      ·cases y
       all_goals
        go_wp2_with fail
        refine HQI.out.mono ?_; rintro e w21 ⟨rfl, k21⟩
        go_wp2_with fail
        go_roundw
        case rel => exact ⟨i + 1, by omega, by go_num, by rw [HBS1.out], kw.trans k21⟩
        case measure => simp [intOf]; omega
      ·obtain rfl : y = true := hbn rfl
       go_wp2_with fail
       refine HQI.out.mono ?_; rintro e w21 ⟨rfl, k21⟩
       go_wp2_with fail
       go_roundw
       case rel => exact ⟨i + 1, by omega, by go_num, by rw [HBS1.out], kw.trans k21⟩
       case measure => simp [intOf]; omega
     ·go_wp2_with fail
      refine HQI.out.mono ?_; rintro e w21 ⟨rfl, k21⟩
      go_wp2_with fail
      go_ret
      exact ⟨rfl, (K1.out.trans KR.out).trans k21⟩
    ·obtain rfl : i = 5 := by omega
     go_wp2_with fail
     go_ret
     exact ⟨rfl, K1.out.trans (KA.out.trans kw)⟩
 ·obtain ⟨v5, rfl, ho5, k5⟩ := h
  obtain ⟨p5, c5, rfl, -, -, -⟩ := At.of_own ho5
  rw [show (zs []).length = 0 from rfl]
  clear ho5
  rw [show ([] : List Nat).length = 0 from rfl]
  have K5 := hid (((K3.out.trans k5).alloc (.cells #[.int .i64 0, .slice p5 0 c5] 34)))
  clear k5
  have h4c := HA4.out
  obtain ⟨c4, hc4, hq4⟩ := h4c
  have HQ4 := hid (hq4 (w4.alloc (.cells #[.int .i64 0, .slice p5 0 c5] 34)) _ K5.out ((HV.out).keeps K5.out))
  clear hq4
  rcases hc4 with rfl | rfl
  all_goals
   skip
   skip
   go_wp2_with fail
   refine HQ4.out.mono ?_; rintro e w20 ⟨rfl, k20⟩
   have K20 := hid ((K5.out).trans k20)
   have hlit : Strs (w20.alloc (.cells (namesO.map Value.string).toArray 9)) (.slice (some ⟨w20.heap.size, 0, none⟩) 5 5) namesO := Strs.lit (w := w20) namesO (by simp [namesO])
   have HS := hid hlit
   have KA := hid (K20.out.alloc (.cells (namesO.map Value.string).toArray 9))
   clear hlit k20
   go_wp2_with fail
   go_loopw [18, 19] (fun s18 s19 wr => ∃ i : Nat, i ≤ 5 ∧ s19 = .int .i64 i ∧ s18 = .bool (BF i) ∧ Keeps (w20.alloc (.cells (namesO.map Value.string).toArray 9)) wr) (fun _ s19 _ => 5 - (intOf s19).toNat)
   case atStart => exact ⟨0, by omega, rfl, by rw [HB0.out], Keeps.refl _⟩
   case round =>
    obtain ⟨i, hi, rfl, rfl, kw⟩ := hrel
    by_cases hlt : i < 5
    ·have hlt' : (i : Int) < 5 := by omega
     obtain ⟨b9, o9, e9, hc9⟩ := (HS.out.keeps kw).get i hlt
     cases e9
     rw [Nat.zero_add] at hc9
     have hai := HAI.out i hlt
     have hbn := HBN.out i hlt
     have hbs := HBS.out i
     have KR := hid (KA.out.trans kw)
     generalize namesO[i] = nm at *
     obtain ⟨ci, hci, hqi⟩ := hai
     have HQI := hid (hqi wr _ KR.out (HV.out.keeps KR.out))
     clear hqi
     have HBS1 := hid hbs
     clear hbs
     generalize BF i = x at *
     generalize TH i = y at *
     rcases hci with rfl | rfl
     ·cases x
      ·cases y
       all_goals
        go_wp2_with fail
        refine HQI.out.mono ?_; rintro e w21 ⟨rfl, k21⟩
        go_wp2_with fail
        go_roundw
        case rel => exact ⟨i + 1, by omega, by go_num, by rw [HBS1.out], kw.trans k21⟩
        case measure => simp [intOf]; omega
      ·obtain rfl : y = true := hbn rfl
       go_wp2_with fail
       refine HQI.out.mono ?_; rintro e w21 ⟨rfl, k21⟩
       go_wp2_with fail
       go_roundw
       case rel => exact ⟨i + 1, by omega, by go_num, by rw [HBS1.out], kw.trans k21⟩
       case measure => simp [intOf]; omega
     ·go_wp2_with fail
      refine HQI.out.mono ?_; rintro e w21 ⟨rfl, k21⟩
      go_wp2_with fail
      go_ret
      exact ⟨rfl, (K1.out.trans KR.out).trans k21⟩
    ·obtain rfl : i = 5 := by omega
     go_wp2_with fail
     go_ret
     exact ⟨rfl, K1.out.trans (KA.out.trans kw)⟩
 ·obtain ⟨v5, rfl, ho5, k5⟩ := h
  have hpv := ho5.ints (by rw [zs_length]; have := hp.1; omega)
  have kA := (Keeps.refl w4).alloc (.cells #[.int .i64 b.length, v5] 34)
  have HPQ := hid (fun wz (kz : Keeps w4 wz) => HPO.out b hp ho v5 wz ((K3.out.trans k5).trans kz) (hpv.keeps kz))
  have HVQ := hid (fun wz (kz : Keeps w4 wz) => HVO.out b hp hcp hvl v5 wz ((K3.out.trans k5).trans kz) (hpv.keeps kz))
  have hlz := zs_length b
  obtain ⟨c0, c1⟩ := BoxF.made w4 b.length v5 34
  obtain ⟨p5, c5, rfl, -, -, -⟩ := At.of_own ho5
  rw [hlz] at *
  have K4 := hid (K3.out.trans k5)
  clear ho5 hp ho hvl hcp hpv k5 hlz
  generalize b.length = bl at *
  go_wp2_with fail
  refine (HPQ.out _ kA).mono ?_; rintro e w6 ⟨rfl, k6⟩
  replace c0 := k6.cell c0
  replace c1 := k6.cell c1
  go_wp2_with fail
  refine (HVQ.out _ (kA.trans k6)).mono ?_; rintro e w7 ⟨rfl, k7⟩
  have K5 := hid ((K4.out.trans (kA.trans k6)).trans k7)
  clear k6 k7 c0 c1 kA
  have h4c := HA4.out
  obtain ⟨c4, hc4, hq4⟩ := h4c
  have HQ4 := hid (hq4 w7 _ K5.out ((HV.out).keeps K5.out))
  clear hq4
  rcases hc4 with rfl | rfl
  all_goals
   skip
   skip
   go_wp2_with fail
   refine HQ4.out.mono ?_; rintro e w20 ⟨rfl, k20⟩
   have K20 := hid ((K5.out).trans k20)
   have hlit : Strs (w20.alloc (.cells (namesO.map Value.string).toArray 9)) (.slice (some ⟨w20.heap.size, 0, none⟩) 5 5) namesO := Strs.lit (w := w20) namesO (by simp [namesO])
   have HS := hid hlit
   have KA := hid (K20.out.alloc (.cells (namesO.map Value.string).toArray 9))
   clear hlit k20
   go_wp2_with fail
   go_loopw [18, 19] (fun s18 s19 wr => ∃ i : Nat, i ≤ 5 ∧ s19 = .int .i64 i ∧ s18 = .bool (BF i) ∧ Keeps (w20.alloc (.cells (namesO.map Value.string).toArray 9)) wr) (fun _ s19 _ => 5 - (intOf s19).toNat)
   case atStart => exact ⟨0, by omega, rfl, by rw [HB0.out], Keeps.refl _⟩
   case round =>
    obtain ⟨i, hi, rfl, rfl, kw⟩ := hrel
    by_cases hlt : i < 5
    ·have hlt' : (i : Int) < 5 := by omega
     obtain ⟨b9, o9, e9, hc9⟩ := (HS.out.keeps kw).get i hlt
     cases e9
     rw [Nat.zero_add] at hc9
     have hai := HAI.out i hlt
     have hbn := HBN.out i hlt
     have hbs := HBS.out i
     have KR := hid (KA.out.trans kw)
     generalize namesO[i] = nm at *
     obtain ⟨ci, hci, hqi⟩ := hai
     have HQI := hid (hqi wr _ KR.out (HV.out.keeps KR.out))
     clear hqi
     have HBS1 := hid hbs
     clear hbs
     generalize BF i = x at *
     generalize TH i = y at *
     rcases hci with rfl | rfl
     ·cases x
      ·cases y
       all_goals
        go_wp2_with fail
        refine HQI.out.mono ?_; rintro e w21 ⟨rfl, k21⟩
        go_wp2_with fail
        go_roundw
        case rel => exact ⟨i + 1, by omega, by go_num, by rw [HBS1.out], kw.trans k21⟩
        case measure => simp [intOf]; omega
      ·obtain rfl : y = true := hbn rfl
       go_wp2_with fail
       refine HQI.out.mono ?_; rintro e w21 ⟨rfl, k21⟩
       go_wp2_with fail
       go_roundw
       case rel => exact ⟨i + 1, by omega, by go_num, by rw [HBS1.out], kw.trans k21⟩
       case measure => simp [intOf]; omega
     ·go_wp2_with fail
      refine HQI.out.mono ?_; rintro e w21 ⟨rfl, k21⟩
      go_wp2_with fail
      go_ret
      exact ⟨rfl, (K1.out.trans KR.out).trans k21⟩
    ·obtain rfl : i = 5 := by omega
     go_wp2_with fail
     go_ret
     exact ⟨rfl, K1.out.trans (KA.out.trans kw)⟩
 ·obtain ⟨v5, rfl, ho5, k5⟩ := h
  obtain ⟨p5, c5, rfl, -, -, -⟩ := At.of_own ho5
  rw [show (zs []).length = 0 from rfl]
  clear ho5
  rw [show ([] : List Nat).length = 0 from rfl]
  have K5 := hid (((K3.out.trans k5).alloc (.cells #[.int .i64 0, .slice p5 0 c5] 34)))
  clear k5
  have h4c := HA4.out
  obtain ⟨c4, hc4, hq4⟩ := h4c
  have HQ4 := hid (hq4 (w4.alloc (.cells #[.int .i64 0, .slice p5 0 c5] 34)) _ K5.out ((HV.out).keeps K5.out))
  clear hq4
  rcases hc4 with rfl | rfl
  all_goals
   have hx4 : x4 = true := HX4.out (by trivial)
   subst hx4
   go_wp2_with fail
   refine HQ4.out.mono ?_; rintro e w20 ⟨rfl, k20⟩
   have K20 := hid ((K5.out).trans k20)
   have hlit : Strs (w20.alloc (.cells (namesO.map Value.string).toArray 9)) (.slice (some ⟨w20.heap.size, 0, none⟩) 5 5) namesO := Strs.lit (w := w20) namesO (by simp [namesO])
   have HS := hid hlit
   have KA := hid (K20.out.alloc (.cells (namesO.map Value.string).toArray 9))
   clear hlit k20
   go_wp2_with fail
   go_loopw [18, 19] (fun s18 s19 wr => ∃ i : Nat, i ≤ 5 ∧ s19 = .int .i64 i ∧ s18 = .bool (BF i) ∧ Keeps (w20.alloc (.cells (namesO.map Value.string).toArray 9)) wr) (fun _ s19 _ => 5 - (intOf s19).toNat)
   case atStart => exact ⟨0, by omega, rfl, by rw [HB0.out], Keeps.refl _⟩
   case round =>
    obtain ⟨i, hi, rfl, rfl, kw⟩ := hrel
    by_cases hlt : i < 5
    ·have hlt' : (i : Int) < 5 := by omega
     obtain ⟨b9, o9, e9, hc9⟩ := (HS.out.keeps kw).get i hlt
     cases e9
     rw [Nat.zero_add] at hc9
     have hai := HAI.out i hlt
     have hbn := HBN.out i hlt
     have hbs := HBS.out i
     have KR := hid (KA.out.trans kw)
     generalize namesO[i] = nm at *
     obtain ⟨ci, hci, hqi⟩ := hai
     have HQI := hid (hqi wr _ KR.out (HV.out.keeps KR.out))
     clear hqi
     have HBS1 := hid hbs
     clear hbs
     generalize BF i = x at *
     generalize TH i = y at *
     rcases hci with rfl | rfl
     ·cases x
      ·cases y
       all_goals
        go_wp2_with fail
        refine HQI.out.mono ?_; rintro e w21 ⟨rfl, k21⟩
        go_wp2_with fail
        go_roundw
        case rel => exact ⟨i + 1, by omega, by go_num, by rw [HBS1.out], kw.trans k21⟩
        case measure => simp [intOf]; omega
      ·obtain rfl : y = true := hbn rfl
       go_wp2_with fail
       refine HQI.out.mono ?_; rintro e w21 ⟨rfl, k21⟩
       go_wp2_with fail
       go_roundw
       case rel => exact ⟨i + 1, by omega, by go_num, by rw [HBS1.out], kw.trans k21⟩
       case measure => simp [intOf]; omega
     ·go_wp2_with fail
      refine HQI.out.mono ?_; rintro e w21 ⟨rfl, k21⟩
      go_wp2_with fail
      go_ret
      exact ⟨rfl, (K1.out.trans KR.out).trans k21⟩
    ·obtain rfl : i = 5 := by omega
     go_wp2_with fail
     go_ret
     exact ⟨rfl, K1.out.trans (KA.out.trans kw)⟩
 ·obtain ⟨v5, rfl, ho5, k5⟩ := h
  obtain ⟨p5, c5, rfl, -, -, -⟩ := At.of_own ho5
  rw [show (zs []).length = 0 from rfl]
  clear ho5
  rw [show ([] : List Nat).length = 0 from rfl]
  have K5 := hid (((K3.out.trans k5).alloc (.cells #[.int .i64 0, .slice p5 0 c5] 34)))
  clear k5
  have h4c := HA4.out
  obtain ⟨c4, hc4, hq4⟩ := h4c
  have HQ4 := hid (hq4 (w4.alloc (.cells #[.int .i64 0, .slice p5 0 c5] 34)) _ K5.out ((HV.out).keeps K5.out))
  clear hq4
  rcases hc4 with rfl | rfl
  all_goals
   have hx4 : x4 = true := HX4.out (by trivial)
   subst hx4
   go_wp2_with fail
   refine HQ4.out.mono ?_; rintro e w20 ⟨rfl, k20⟩
   have K20 := hid ((K5.out).trans k20)
   have hlit : Strs (w20.alloc (.cells (namesO.map Value.string).toArray 9)) (.slice (some ⟨w20.heap.size, 0, none⟩) 5 5) namesO := Strs.lit (w := w20) namesO (by simp [namesO])
   have HS := hid hlit
   have KA := hid (K20.out.alloc (.cells (namesO.map Value.string).toArray 9))
   clear hlit k20
   go_wp2_with fail
   go_loopw [18, 19] (fun s18 s19 wr => ∃ i : Nat, i ≤ 5 ∧ s19 = .int .i64 i ∧ s18 = .bool (BF i) ∧ Keeps (w20.alloc (.cells (namesO.map Value.string).toArray 9)) wr) (fun _ s19 _ => 5 - (intOf s19).toNat)
   case atStart => exact ⟨0, by omega, rfl, by rw [HB0.out], Keeps.refl _⟩
   case round =>
    obtain ⟨i, hi, rfl, rfl, kw⟩ := hrel
    by_cases hlt : i < 5
    ·have hlt' : (i : Int) < 5 := by omega
     obtain ⟨b9, o9, e9, hc9⟩ := (HS.out.keeps kw).get i hlt
     cases e9
     rw [Nat.zero_add] at hc9
     have hai := HAI.out i hlt
     have hbn := HBN.out i hlt
     have hbs := HBS.out i
     have KR := hid (KA.out.trans kw)
     generalize namesO[i] = nm at *
     obtain ⟨ci, hci, hqi⟩ := hai
     have HQI := hid (hqi wr _ KR.out (HV.out.keeps KR.out))
     clear hqi
     have HBS1 := hid hbs
     clear hbs
     generalize BF i = x at *
     generalize TH i = y at *
     rcases hci with rfl | rfl
     ·cases x
      ·cases y
       all_goals
        go_wp2_with fail
        refine HQI.out.mono ?_; rintro e w21 ⟨rfl, k21⟩
        go_wp2_with fail
        go_roundw
        case rel => exact ⟨i + 1, by omega, by go_num, by rw [HBS1.out], kw.trans k21⟩
        case measure => simp [intOf]; omega
      ·obtain rfl : y = true := hbn rfl
       go_wp2_with fail
       refine HQI.out.mono ?_; rintro e w21 ⟨rfl, k21⟩
       go_wp2_with fail
       go_roundw
       case rel => exact ⟨i + 1, by omega, by go_num, by rw [HBS1.out], kw.trans k21⟩
       case measure => simp [intOf]; omega
     ·go_wp2_with fail
      refine HQI.out.mono ?_; rintro e w21 ⟨rfl, k21⟩
      go_wp2_with fail
      go_ret
      exact ⟨rfl, (K1.out.trans KR.out).trans k21⟩
    ·obtain rfl : i = 5 := by omega
     go_wp2_with fail
     go_ret
     exact ⟨rfl, K1.out.trans (KA.out.trans kw)⟩
 ·exact (HSO.out b hp ho hvl (by trivial)).elim
end Go.Proofs.YtikooimokfbffaaGreatDoor
namespace Go.Proofs.YtikooimokfbffaaGreatDoor
open Go.ChangeShapes Go.WideShapes Go.ChangeAt Go.RowKit Go.Deep
set_option maxRecDepth 100000 in
theorem open_bytes {H : Type} {enc : TypeId × Value → H} {W : World} {v : Value} {d : DataW H} {ps : List MemPlace} {r : Reach} {b0 : Nat} (hval : Value.okWide Tryz.prog W r b0 30 v)
  (h : DataW.Trod enc Tryz.prog W 0 (fun _ => true) true 30 v d ps) :
  ∃ p n cap, v = .slice p n cap ∧ n ≤ maxLen ∧ Bts W v n := by
 obtain ⟨p, n, cap, rfl⟩ := okWide_slice Tryz.underlying30 hval
 obtain ⟨fuel, hf⟩ := h
 have hC : Tryz.prog.cellsOf 5 = 1 := by kernel_rfl
 rcases open_slice1 Tryz.underlying30 hC hf with ⟨hcs, _⟩ | ⟨a, len, cap', m, n', V, D, Pl, hcs, _, hl, hm, hmm, _, hi⟩
 ·simp [Value.cells] at hcs
  obtain ⟨rfl, rfl, rfl⟩ := hcs
  exact ⟨none, 0, 0, rfl, by simp [maxLen], none, 0, rfl, by simp, by simp [maxLen], fun j hj => by omega⟩
 ·simp [Value.cells] at hcs
  obtain ⟨rfl, rfl, rfl⟩ := hcs
  simp at hmm
  refine ⟨some a, n, cap, rfl, by omega, some a, cap, rfl, hl, hm, fun j hj => ?_⟩
  obtain ⟨hc, ht⟩ := hi j (by omega)
  obtain ⟨x, hx, _, hwf⟩ := DataW.trod_int Tryz.underlying5 ht
  simp at hx
  rw [hx] at hc
  have hr : 0 ≤ x ∧ x < 256 := by
   simp [Lit.wf, IntKind.min, IntKind.max, IntKind.bits, IntKind.signed] at hwf
   omega
  obtain ⟨b, off, spot⟩ := a
  have hs : spot = none := by simpa [Addr.add] using World.cell?_spot (hi 0 (by omega)).1
  subst hs
  have hadd : (⟨b, off, none⟩ : Addr).add j = ⟨b, off + j, none⟩ := by unfold Addr.add; split <;> simp_all
  rw [hadd] at hc
  exact ⟨b, off, x.toNat, rfl, by rw [hc]; congr 2; omega, by omega, World.block_lt_of_cell? _ _ hc⟩
end Go.Proofs.YtikooimokfbffaaGreatDoor
