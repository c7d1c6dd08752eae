import Derived.Test.YtkkcfifnkcnceaaGreatHEJ
import Derived.Test.YtkkcfifnkcnceaaGreatHRP
import Derived.Deep.CutBlock
import Derived.Deep.DeepCutAuto
/- The reference's parts of formulas of a kind; what a modal rule keeps; a main formula on a side. -/
namespace Go.Proofs.YtkkcfifnkcnceaaGreat
open Go.RowKit
theorem drop_below {t : Fm} (h : t.kind = 5 ∨ t.kind = 6) : t.enc.drop 1 = (below t).enc := by
 cases t <;> simp [Fm.kind] at h <;> simp [below, Fm.enc]
theorem below_wf {t : Fm} (hw : t.wf) : (below t).wf := subs_wf hw _ (below_in t)
theorem below_le {t : Fm} : (below t).enc.length ≤ t.enc.length := subs_le _ (below_in t)
theorem tail_part {t : Fm} {x : ByteArray} (hx : IsTx x t) (h : t.kind = 5 ∨ t.kind = 6) {w : World} {B : Nat} {v : Value} (ho : OwnN w B v t.enc) : ∃ g cap p n c, v = .slice (some ⟨g, 0, none⟩) t.enc.length cap ∧ t.enc.length ≤ cap ∧ cap ≤ maxLen ∧ 0 < t.enc.length ∧ w.cell? ⟨g, 0, none⟩ = some (.int .i64 t.kind) ∧ w.cell? ⟨g, 1, none⟩ = some (.int .i64 t.sym) ∧
  (∀ wx, (Instr.slice 95 (.slice (some ⟨g, 0, none⟩) t.enc.length cap) (some (.int .i64 1)) none none).run Tryz.prog wx = .ok (.slice p n c) wx) ∧ Nds w (.slice p n c) (below t).enc := by
 have hl := hx.2.2
 have h0 : 0 < t.enc.length := by cases t <;> simp [Fm.enc]
 obtain ⟨g, cap, rfl, _, _, hc1, hc2⟩ := ho.shape h0
 have hr := (ho.nds (by omega)).root
 obtain ⟨b, o, n, c, e, _, _, _, _, c0, c1⟩ := hr
 cases e
 have htl := tail1 g t.enc.length cap h0 hc1 hc2 w B t.enc ho (by omega)
 have hsl := fun wx => slice1 g t.enc.length cap h0 hc1 wx
 rw [drop_below h] at htl
 obtain ⟨p, n, c, e⟩ := htl.shape
 rw [e] at htl hsl
 exact ⟨g, cap, p, n, c, rfl, hc1, hc2, h0, c0, by simpa using c1, hsl, htl⟩
set_option maxRecDepth 20000 in
set_option maxHeartbeats 1000000 in
theorem l11Of_any (ss : List ByteArray) (hS : ∀ s ∈ ss, ∃ t, IsTx s t) (v : Value) (kd : Int) (hkd : kd = 5 ∨ kd = 6) (w : World) (hv : Strs w v ss) (hl : ss.length ≤ 100000) : Calls Tryz.prog 149 #[v, .int .i64 kd] w (RetSR w (ofS (isKd kd) ss)) := by
 have HV := hid hv
 obtain ⟨p, c, rfl, hle, hmx, _⟩ := hv.shape
 unfold maxLen at hmx
 have HE : Hid (ofS (isKd kd) (ss.take ss.length) = ofS (isKd kd) ss) := hid (by rw [List.take_length])
 have HTX := hid (fun (i : Nat) (h : i < ss.length) => txF_tx (hS ss[i] (List.getElem_mem h)))
 have HKD := hid hkd
 clear hv hkd
 go_enter Tryz.func149, Tryz.ntmps149
 go_wp2
 go_loopw [5, 6] (fun o i' wr => ∃ (i : Nat), i ≤ ss.length ∧ i' = .int .i64 i ∧ StrsP wr o (ofS (isKd kd) (ss.take i)) ∧ Keeps w wr) (fun _ i' _ => ss.length - (intOf i').toNat)
 case atStart => exact ⟨0, by omega, rfl, OwnS.strsP (OwnS.empty w) (by simp [ofS, kdS]), (Keeps.refl w).alloc _⟩
 case round =>
  obtain ⟨i, hi, rfl, hown, kw⟩ := hrel
  have HO := hid hown
  obtain ⟨po, no, co, rfl⟩ := hown.sh
  clear hown
  by_cases hlt : i < ss.length
  ·have hlt' : (i : Int) < ss.length := by omega
   obtain ⟨b1, o1, rfl, h1⟩ := (HV.out.keeps kw).get i hlt
   have HN := hid (ofS_take (p := isKd kd) hlt)
   have hlr : (ofS (isKd kd) (ss.take i)).length ≤ 1000000 := by have := ofS_len (isKd kd) (ss.take i); simp at this; omega
   have htx := HTX.out i hlt
   have HG := hid (l02GoodA ss[i] wr (by have := htx.small; omega))
   unfold GoodR at HG
   have HT := hid htx
   have hix := isTx_iff.2 ⟨_, htx⟩
   clear htx
   have hkk : isKd kd (txF ss[i]) = decide ((txF ss[i]).kind = kd) := rfl
   have hpa : paI ss[i] = txS (below (txF ss[i])) := rfl
   rw [hpa, hkk] at HN
   clear hkk hpa
   generalize txF ss[i] = t at *
   generalize ss[i] = x at *
   have HIN := hid (fun s wz (hz : StrsP wz (.slice po no co) (ofS (isKd kd) (ss.take i))) => l02InsertR_any (ofS (isKd kd) (ss.take i)) (.slice po no co) s wz hz hlr)
   generalize ofS (isKd kd) (ss.take i) = R at *
   generalize hR2 : ofS (isKd kd) (ss.take (i + 1)) = R2 at *
   have HR2 := hid hR2; clear hR2
   rw [hix] at HG
   clear hix
   go_wp2_with fail
   refine HG.out.mono ?_; rintro e w2 ⟨v2, rfl, k2, hg2⟩
   have hown2 := hg2 t HT.out
   by_cases hk : t.kind = kd
   ·obtain ⟨g, cap, p3, n3, c3, rfl, hc1, hc2, h0, z0, -, hsl, htl⟩ := tail_part HT.out (by rw [hk]; exact HKD.out) hown2
    have HTX2 := hid (l02TextA (below t) (below_wf HT.out.1) (by have := HT.out.2.2; have := below_le (t := t); omega) _ w2 htl)
    have HTS : Hid (∀ s : ByteArray, bts s = (below t).body → s = txS (below t)) := hid (fun s h => txS_eq h)
    have HK := hid hk
    rw [hk] at z0
    clear hown2 hg2 htl hk
    unfold maxLen at hc2
    go_wp2_with fail
    refine HTX2.out.mono ?_; rintro e w3 ⟨s3, rfl, hs3, k3⟩
    obtain rfl := HTS.out s3 hs3
    have HI2 := hid (HIN.out (txS (below t)) w3 ((HO.out.keeps k2).keeps k3))
    clear hs3
    go_wp2_with fail
    refine HI2.out.mono ?_; rintro e w4 ⟨v4, rfl, hv4, k4⟩
    go_wp2_with fail
    go_roundw
    case rel => exact ⟨i + 1, by omega, by go_num, by rw [HR2.out, HN.out, if_pos (decide_eq_true HK.out)]; exact hv4, ((kw.trans k2).trans k3).trans k4⟩
    case measure => simp [intOf]; omega
   ·have HK := hid hk
    have hk' : ((t.kind : Int) == kd) = false := by simpa using hk
    obtain ⟨b6, o6, n6, c6, rfl, hn0, hn1, hn2, hn3, hc, -⟩ := (hown2.nds (by have := HT.out.2.2; omega)).root
    unfold maxLen at hn2
    clear hown2 hg2 hk
    go_wp2_with fail
    go_roundw
    case rel => exact ⟨i + 1, by omega, by go_num, by rw [HR2.out, HN.out, if_neg (by simp [HK.out])]; exact HO.out.keeps k2, kw.trans k2⟩
    case measure => simp [intOf]; omega
  ·obtain rfl : i = ss.length := by omega
   have hlt' : ¬ ((ss.length : Int) < ss.length) := by omega
   go_wp2_with fail
   go_ret
   exact ⟨_, rfl, by rw [← HE.out]; exact HO.out, kw⟩
set_option maxRecDepth 20000 in
set_option maxHeartbeats 2000000 in
theorem l11Kept_any (s : ByteArray) (ss : List ByteArray) (hS : Side ss) (v : Value) (kd : Int) (hkd : kd = 5 ∨ kd = 6) (main : ByteArray) (w : World) (hv : Strs w v ss) (hl : ss.length ≤ 1000) :
  Calls Tryz.prog 109 #[.string s, v, .int .i64 kd, .string main] w (RetSR w (kepS (lgN s) (isKd kd) ss main)) := by
 have HOF := hid (fun wz (kz : Keeps w wz) => l11Of_any ss hS.1 v kd hkd wz (hv.keeps kz) (by omega))
 have HKD := hid (fun kd wz (kz : Keeps w wz) => l11Kind_any ss hS.1 v kd wz (hv.keeps kz) (by omega))
 have e1 := nmK4 s
 have e2 := nmGL s
 have e3 := nmS4 s
 have e4 := nmS5 s
 have HKP : Hid (kepS (lgN s) (isKd kd) ss main = if lgN s = 3 ∨ lgN s = 5 then uniS (ofS (isKd kd) ss) (kdS (isKd kd) ss) else if lgN s = 4 then kdS (isKd kd) ss else if lgN s = 6 then remS (uniS (kdS isBx ss) (kdS isDi ss)) main else ofS (isKd kd) ss) := hid rfl
 have l1 := ofS_len (isKd kd) ss
 have l2 := kdS_len (isKd kd) ss
 have l3 := kdS_len isBx ss
 have l4 := kdS_len isDi ss
 have HA1 := hid (ofS_side (p := isKd kd) hS).2
 have HA2 := hid (kdS_side (p := isBx) hS).2
 have H5 := hid (fun wz (kz : Keeps w wz) => HKD.out 5 wz kz)
 have H6 := hid (fun wz (kz : Keeps w wz) => HKD.out 6 wz kz)
 rw [isKd_bx] at H5
 rw [isKd_di] at H6
 obtain ⟨p, c, rfl, _⟩ := hv.shape
 clear hv hS
 generalize kepS (lgN s) (isKd kd) ss main = R at *
 by_cases h35 : lgN s = 3 ∨ lgN s = 5
 ·rw [if_pos h35] at HKP
  have HU := hid (fun va vb wz (ha : Strs wz va (ofS (isKd kd) ss)) (hb : Strs wz vb (kdS (isKd kd) ss)) => l11Union_uni _ _ va vb wz ha hb HA1.out (by omega))
  have hun := uniS_len (ofS (isKd kd) ss) (kdS (isKd kd) ss)
  have hul : (uniS (ofS (isKd kd) ss) (kdS (isKd kd) ss)).length ≤ 1000000 := by omega
  clear hun H5 H6 HA1 HA2
  generalize uniS (ofS (isKd kd) ss) (kdS (isKd kd) ss) = U at *
  generalize ofS (isKd kd) ss = A at *
  have HKD2 := hid (fun wz (kz : Keeps w wz) => HKD.out kd wz kz)
  generalize kdS (isKd kd) ss = B at *
  have main : ∀ b1 b2 : Bool, (s.toList == [75, 52]) = b1 → (s.toList == [71, 76]) = b2 → (b1 || b2) = true → Calls Tryz.prog 109 #[.string s, .slice p ss.length c, .int .i64 kd, .string main] w (RetSR w R) := by
   intro b1 b2 f1 f2 hb
   clear e1 e2 e3 e4 h35
   cases b1
   ·cases b2
    ·cases hb
    ·go_enter Tryz.func109, Tryz.ntmps109
     go_wp2_with fail
     refine (HOF.out _ (Keeps.refl w)).mono ?_; rintro e w2 ⟨v2, rfl, hv2, k2⟩
     obtain ⟨p2, n2, c2, rfl⟩ := hv2.sh
     go_wp2_with fail
     refine (HKD2.out _ k2).mono ?_; rintro e w3 ⟨b3, n3, c3, rfl, hv3, k3⟩
     have HU2 := hid (HU.out _ _ w3 (hv2.1.keeps k3) (hv3.strs (by omega)))
     clear hv2 hv3
     go_wp2_with fail
     refine HU2.out.mono ?_; rintro e w4 ⟨b4, n4, c4, rfl, hv4, k4⟩
     go_wp2_with fail
     go_ret
     exact ⟨_, rfl, by rw [HKP.out]; exact hv4.strsP (by omega), (k2.trans k3).trans k4⟩
   ·go_enter Tryz.func109, Tryz.ntmps109
    go_wp2_with fail
    refine (HOF.out _ (Keeps.refl w)).mono ?_; rintro e w2 ⟨v2, rfl, hv2, k2⟩
    obtain ⟨p2, n2, c2, rfl⟩ := hv2.sh
    go_wp2_with fail
    refine (HKD2.out _ k2).mono ?_; rintro e w3 ⟨b3, n3, c3, rfl, hv3, k3⟩
    have HU2 := hid (HU.out _ _ w3 (hv2.1.keeps k3) (hv3.strs (by omega)))
    clear hv2 hv3
    go_wp2_with fail
    refine HU2.out.mono ?_; rintro e w4 ⟨b4, n4, c4, rfl, hv4, k4⟩
    go_wp2_with fail
    go_ret
    exact ⟨_, rfl, by rw [HKP.out]; exact hv4.strsP (by omega), (k2.trans k3).trans k4⟩
  refine main _ _ e1 e2 ?_
  rcases h35 with h | h <;> rw [h] <;> rfl
 ·rw [if_neg h35] at HKP
  have f1 : (s.toList == [75, 52]) = false := by rw [e1, decide_eq_false (fun h => h35 (.inl h))]
  have f2 : (s.toList == [71, 76]) = false := by rw [e2, decide_eq_false (fun h => h35 (.inr h))]
  clear e1 e2 h35 HA1
  by_cases h4 : lgN s = 4
  ·rw [if_pos h4] at HKP
   rw [decide_eq_true h4] at e3
   have HKD2 := hid (fun wz (kz : Keeps w wz) => HKD.out kd wz kz)
   clear e4 h4 H5 H6 HOF HKD
   generalize kdS (isKd kd) ss = B at *
   go_enter Tryz.func109, Tryz.ntmps109
   go_wp2_with fail
   refine (HKD2.out _ (Keeps.refl w)).mono ?_; rintro e w3 ⟨b3, n3, c3, rfl, hv3, k3⟩
   go_wp2_with fail
   go_ret
   exact ⟨_, rfl, by rw [HKP.out]; exact hv3.strsP (by omega), k3⟩
  ·rw [if_neg h4] at HKP
   rw [decide_eq_false h4] at e3
   clear h4
   by_cases h6 : lgN s = 6
   ·rw [if_pos h6] at HKP
    rw [decide_eq_true h6] at e4
    have HU := hid (fun va vb wz (ha : Strs wz va (kdS isBx ss)) (hb : Strs wz vb (kdS isDi ss)) => l11Union_uni _ _ va vb wz ha hb HA2.out (by omega))
    have hun := uniS_len (kdS isBx ss) (kdS isDi ss)
    have hre := remS_len (uniS (kdS isBx ss) (kdS isDi ss)) main
    have HRM := hid (fun va wz (ha : Strs wz va (uniS (kdS isBx ss) (kdS isDi ss))) => l11Without_any _ va main wz ha (by omega))
    have hrl : (remS (uniS (kdS isBx ss) (kdS isDi ss)) main).length ≤ 2147483648 := by omega
    have hul : (uniS (kdS isBx ss) (kdS isDi ss)).length ≤ 2147483648 := by omega
    clear h6 HOF HKD HA2 hun hre
    generalize remS (uniS (kdS isBx ss) (kdS isDi ss)) main = Q2 at *
    generalize uniS (kdS isBx ss) (kdS isDi ss) = U at *
    generalize kdS isBx ss = A at *
    generalize kdS isDi ss = B at *
    go_enter Tryz.func109, Tryz.ntmps109
    go_wp2_with fail
    refine (H5.out _ (Keeps.refl w)).mono ?_; rintro e w2 ⟨b2, n2, c2, rfl, hv2, k2⟩
    go_wp2_with fail
    refine (H6.out _ k2).mono ?_; rintro e w3 ⟨b3, n3, c3, rfl, hv3, k3⟩
    have HU2 := hid (HU.out _ _ w3 ((hv2.strs (by omega)).keeps k3) (hv3.strs (by omega)))
    clear hv2 hv3
    go_wp2_with fail
    refine HU2.out.mono ?_; rintro e w4 ⟨b4, n4, c4, rfl, hv4, k4⟩
    have HR2 := hid (HRM.out _ w4 (hv4.strs (by omega)))
    clear hv4
    go_wp2_with fail
    refine HR2.out.mono ?_; rintro e w5 ⟨b5, n5, c5, rfl, hv5, k5⟩
    go_wp2_with fail
    go_ret
    exact ⟨_, rfl, by rw [HKP.out]; exact hv5.strsP hrl, ((k2.trans k3).trans k4).trans k5⟩
   ·rw [if_neg h6] at HKP
    rw [decide_eq_false h6] at e4
    clear h6 H5 H6 HKD
    generalize ofS (isKd kd) ss = A at *
    go_enter Tryz.func109, Tryz.ntmps109
    go_wp2_with fail
    refine (HOF.out _ (Keeps.refl w)).mono ?_; rintro e w3 ⟨v3, rfl, hv3, k3⟩
    obtain ⟨p3, n3, c3, rfl⟩ := hv3.sh
    go_wp2_with fail
    go_ret
    exact ⟨_, rfl, by rw [HKP.out]; exact hv3, k3⟩
end Go.Proofs.YtkkcfifnkcnceaaGreat
namespace Go.Proofs.YtkkcfifnkcnceaaGreat
open Go.RowKit
theorem enc_two {t : Fm} (h : t.kind = 2 ∨ t.kind = 3 ∨ t.kind = 4) : ∃ x, t.enc = x :: ((fst2 t).enc ++ (snd2 t).enc) := by
 cases t <;> simp [Fm.kind] at h <;> exact ⟨_, rfl⟩
theorem two_le {t : Fm} (h : t.kind = 2 ∨ t.kind = 3 ∨ t.kind = 4) : (fst2 t).enc.length + (snd2 t).enc.length + 1 = t.enc.length := by
 obtain ⟨x, e⟩ := enc_two h
 rw [e]
 simp
def RetOn (w : World) (ss : List ByteArray) (main : ByteArray) (kd : Int) (e : Ending) (w' : World) : Prop :=
 ∃ a b, e = .returned (.tuple #[.string a, .string b, .bool (onS ss main (isKd kd))]) ∧ (onS ss main (isKd kd) = true → ((kd = 5 ∨ kd = 6) → a = paI main) ∧ ((kd = 2 ∨ kd = 3 ∨ kd = 4) → a = pa1 main ∧ b = pa2 main)) ∧ Keeps w w'
open scoped Classical in
set_option maxRecDepth 20000 in
set_option maxHeartbeats 1000000 in
theorem l11On_any (ss : List ByteArray) (hS : ∀ s ∈ ss, ∃ t, IsTx s t) (v : Value) (main : ByteArray) (kd : Int) (hkd : 2 ≤ kd ∧ kd ≤ 6) (w : World) (hv : Strs w v ss) : Calls Tryz.prog 57 #[v, .string main, .int .i64 kd] w (RetOn w ss main kd) := by
 have HS := hid (l01Says_any ss main v w hv)
 obtain ⟨p, c, rfl, _⟩ := hv.shape
 clear hv
 unfold RetOn
 by_cases hm : main ∈ ss
 ·rw [decide_eq_true hm] at HS
  have htx := txF_tx (hS main hm)
  have HG := hid (l02GoodA main w (by have := htx.small; omega))
  unfold GoodR at HG
  rw [isTx_iff.2 ⟨_, htx⟩] at HG
  have HT := hid htx
  have hon : onS ss main (isKd kd) = decide ((txF main).kind = kd) := by
   unfold onS
   rw [inS_iff.2 hm, Bool.true_and]; rfl
  rw [hon]
  have hp1 : paI main = txS (below (txF main)) := rfl
  have hp2 : pa1 main = txS (fst2 (txF main)) := rfl
  have hp3 : pa2 main = txS (snd2 (txF main)) := rfl
  rw [hp1, hp2, hp3]
  have HW := hid (fun wz => l02Parts_any kd wz)
  clear hm hS htx hon hp1 hp2 hp3
  generalize txF main = t at *
  by_cases hk : t.kind = kd
  ·rw [decide_eq_true hk]
   have h56 : (kd = 5 ∨ kd = 6) ∨ (kd = 2 ∨ kd = 3 ∨ kd = 4) := by omega
   rcases h56 with h56 | h234
   ·have hpo : partsOf kd = 1 := by rcases h56 with rfl | rfl <;> rfl
    rw [hpo] at HW
    have HK := hid hk
    have H56 := hid h56
    clear hkd h56 hpo hk
    go_enter Tryz.func57, Tryz.ntmps57
    go_wp2_with fail
    refine HS.out.mono ?_; rintro e w' ⟨rfl, rfl⟩
    go_wp2_with fail
    refine HG.out.mono ?_; rintro e w2 ⟨v2, rfl, k2, hg2⟩
    obtain ⟨g, cap, p3, n3, c3, rfl, hc1, hc2, h0, z0, -, hsl, htl⟩ := tail_part HT.out (by rw [HK.out]; exact H56.out) (hg2 t HT.out)
    have HTX2 := hid (l02TextA (below t) (below_wf HT.out.1) (by have := HT.out.2.2; have := below_le (t := t); omega) _ w2 htl)
    rw [HK.out] at z0
    unfold maxLen at hc2
    clear hg2 htl
    go_wp2_with fail
    refine (HW.out _).mono ?_; rintro e w' ⟨rfl, rfl⟩
    go_wp2_with fail
    refine HTX2.out.mono ?_; rintro e w3 ⟨s3, rfl, hs3, k3⟩
    go_wp2_with fail
    refine bodyPost_ret (v := .tuple #[.string s3, .string ⟨#[]⟩, .bool true]) (by simp [results, Tryz.results57, go_sem]) rfl ?_
    exact ⟨_, _, rfl, fun _ => ⟨fun _ => txS_eq hs3, fun h => by have := H56.out; omega⟩, k2.trans k3⟩
   ·have hpo : partsOf kd = 2 := by rcases h234 with rfl | rfl | rfl <;> rfl
    rw [hpo] at HW
    have HK := hid hk
    have H234 := hid h234
    obtain ⟨x, hx⟩ := enc_two (by rw [hk]; exact h234)
    have htl := two_le (by rw [hk]; exact h234)
    have HX := hid hx
    have HTL := hid htl
    have hw1 : (fst2 t).wf ∧ (snd2 t).wf := by
     have hw := HT.out.1
     cases t <;> simp [Fm.kind] at hk <;> simp [Fm.wf, fst2, snd2] at hw ⊢ <;> first | exact hw | omega
    have HW1 := hid hw1
    clear hkd h234 hpo hk hx htl hw1
    go_enter Tryz.func57, Tryz.ntmps57
    go_wp2_with fail
    refine HS.out.mono ?_; rintro e w' ⟨rfl, rfl⟩
    go_wp2_with fail
    refine HG.out.mono ?_; rintro e w2 ⟨v2, rfl, k2, hg2⟩
    have hnd := (hg2 t HT.out).nds (by have := HT.out.2.2; omega)
    obtain ⟨b6, o6, n6, c6, rfl, hn0, hn1, hn2, hn3, hc, -⟩ := hnd.root
    unfold maxLen at hn2
    rw [HK.out] at hc
    have HL := hid (fun wz (kz : Keeps w2 wz) => l02Left_any t.enc x (fst2 t) (snd2 t).enc _ wz (hnd.keeps kz) HX.out)
    have HR := hid (fun wz (kz : Keeps w2 wz) => l02Right_any t.enc x (fst2 t) (snd2 t) _ wz (hnd.keeps kz) HX.out)
    clear hg2 hnd
    go_wp2_with fail
    refine (HW.out _).mono ?_; rintro e w' ⟨rfl, rfl⟩
    go_wp2_with fail
    refine (HL.out _ (Keeps.refl _)).mono ?_; rintro e w' ⟨v3, rfl, hv3, rfl⟩
    have HT1 := hid (l02TextA (fst2 t) HW1.out.1 (by have := HT.out.2.2; have := HTL.out; omega) _ _ hv3)
    obtain ⟨p3, n3, c3, rfl⟩ := hv3.shape
    clear hv3
    go_wp2_with fail
    refine HT1.out.mono ?_; rintro e w3 ⟨s3, rfl, hs3, k3⟩
    go_wp2_with fail
    refine (HR.out _ k3).mono ?_; rintro e w' ⟨v4, rfl, hv4, rfl⟩
    have HT2 := hid (l02TextA (snd2 t) HW1.out.2 (by have := HT.out.2.2; have := HTL.out; omega) _ _ hv4)
    obtain ⟨p4, n4, c4, rfl⟩ := hv4.shape
    clear hv4
    go_wp2_with fail
    refine HT2.out.mono ?_; rintro e w4 ⟨s4, rfl, hs4, k4⟩
    go_wp2_with fail
    refine bodyPost_ret (v := .tuple #[.string s3, .string s4, .bool true]) (by simp [results, Tryz.results57, go_sem]) rfl ?_
    exact ⟨_, _, rfl, fun _ => ⟨fun h => by have := H234.out; omega, fun _ => ⟨txS_eq hs3, txS_eq hs4⟩⟩, (k2.trans k3).trans k4⟩
  ·rw [decide_eq_false hk]
   have hk' : ((t.kind : Int) == kd) = false := by simpa using hk
   have HK := hid hk
   clear hkd hk HW
   go_enter Tryz.func57, Tryz.ntmps57
   go_wp2_with fail
   refine HS.out.mono ?_; rintro e w' ⟨rfl, rfl⟩
   go_wp2_with fail
   refine HG.out.mono ?_; rintro e w2 ⟨v2, rfl, k2, hg2⟩
   have hnd := (hg2 t HT.out).nds (by have := HT.out.2.2; omega)
   obtain ⟨b6, o6, n6, c6, rfl, hn0, hn1, hn2, hn3, hc, -⟩ := hnd.root
   unfold maxLen at hn2
   clear hg2 hnd
   go_wp2_with fail
   refine bodyPost_ret (v := .tuple #[.string ⟨#[]⟩, .string ⟨#[]⟩, .bool false]) (by simp [results, Tryz.results57, go_sem]) rfl ?_
   exact ⟨_, _, rfl, (fun h => by cases h), k2⟩
 ·rw [decide_eq_false hm] at HS
  have hon : onS ss main (isKd kd) = false := by
   unfold onS
   rw [Bool.eq_false_iff.2 (fun h => hm (inS_iff.1 h)), Bool.false_and]
  rw [hon]
  clear hm hS hon hkd
  go_enter Tryz.func57, Tryz.ntmps57
  go_wp2_with fail
  refine HS.out.mono ?_; rintro e w' ⟨rfl, rfl⟩
  go_wp2_with fail
  refine bodyPost_ret (v := .tuple #[.string ⟨#[]⟩, .string ⟨#[]⟩, .bool false]) (by simp [results, Tryz.results57, go_sem]) rfl ?_
  exact ⟨_, _, rfl, (fun h => by cases h), Keeps.refl _⟩
end Go.Proofs.YtkkcfifnkcnceaaGreat
namespace Go.Proofs.YtkkcfifnkcnceaaGreat
open Go.RowKit
theorem stF {F H : Oper → Prop} {T : Nat → Oper → Prop} {M i : Nat} {o : Oper} {l : List Oper} (hi : i < M) (h : F o) (t : stepsT F H T M (i + 1) l) : stepsT F H T M i (o :: l) := ⟨by rw [if_pos hi]; exact h, t⟩
theorem stH {F H : Oper → Prop} {T : Nat → Oper → Prop} {i : Nat} {o : Oper} {l : List Oper} (h : H o) (t : stepsT F H T i (i + 1) l) : stepsT F H T i i (o :: l) := ⟨by rw [if_neg (Nat.lt_irrefl _), if_pos rfl]; exact h, t⟩
theorem stT {F H : Oper → Prop} {T : Nat → Oper → Prop} {M i : Nat} {o : Oper} {l : List Oper} (hi : M < i) (h : T i o) (t : stepsT F H T M (i + 1) l) : stepsT F H T M i (o :: l) := ⟨by rw [if_neg (by omega), if_neg (by omega)]; exact h, t⟩
def flatQ : List SqT → List (List ByteArray)
 | [] => []
 | p :: l => p.1 :: p.2 :: flatQ l
theorem flatQ_len : ∀ ps : List SqT, (flatQ ps).length = ps.length * 2
 | [] => rfl
 | p :: l => by simp [flatQ, flatQ_len l]; omega
theorem flatQ_get : ∀ (ps : List SqT) (k : Nat) (hk : k < ps.length), (flatQ ps)[k * 2]? = some ps[k].1 ∧ (flatQ ps)[k * 2 + 1]? = some ps[k].2
 | [], i, hi => by simp at hi
 | x :: l, 0, _ => by simp [flatQ]
 | x :: l, i + 1, hi => by
  have := flatQ_get l i (by simpa using hi)
  rw [show (i + 1) * 2 = i * 2 + 1 + 1 by omega, show i * 2 + 1 + 1 + 1 = (i * 2 + 1) + 1 + 1 by omega]
  simpa [flatQ] using this
section
variable {md : Region.Mode} {ops : Array Oper} {Q : Exit → Act → World → Prop} {nt : Nat} {ins : List Nat} {kd : Nat → Kq} {w0 : World} {o : Oper}
theorem kPure2 (s s' : Nat) (u u' v : Value) (hg : o.guard = none) (h : availK md ops ins o s = true) (h' : availK md ops ins o s' = true) (hs : kd s = .val u) (hs' : kd s' = .val u') (hrun : ∀ (a : Act) w, a.eval (.tmp s) = u → a.eval (.tmp s') = u' → (execOp a.eval o).run Tryz.prog w = .ok (.value v) w) (hk : ∀ d, o.dst = some d → kd d = .val v) : StQ md ops Q nt ins kd w0 o :=
 StepK.plain hg fun a w K hsa hJ hins hdep hK => by
  have hv := getK h hins hdep
  have hv' := getK h' hins hdep
  change (kd s).holds _ w at hv
  change (kd s').holds _ w at hv'
  rw [hs] at hv
  rw [hs'] at hv'
  unfold Oper.wp
  rw [hrun a w hv hv']
  exact hK _ _ (Keeps.refl w) (fun d hd => by show (kd d).holds _ w; rw [hk d hd]; exact rfl)
theorem run_indexD (b off n c i : Nat) (hi : i < n) (w : World) : (Instr.indexAt 134 (.slice (some ⟨b, off, none⟩) n c) (.int .i64 (i : Int))).run Tryz.prog w = .ok (.pointer (some ⟨b, off + i, none⟩)) w := by
 simp [Instr.indexAt, go_sem, hi]
theorem kIndexD (s s' : Nat) (b off n c i : Nat) (hi : i < n) (ho : o.op = .indexAddr 134 (.tmp s) (.tmp s')) (hg : o.guard = none) (h : availK md ops ins o s = true) (h' : availK md ops ins o s' = true) (hs : kd s = .val (.slice (some ⟨b, off, none⟩) n c)) (hs' : kd s' = .val (.int .i64 (i : Int))) (hk : ∀ d, o.dst = some d → kd d = .val (.pointer (some ⟨b, off + i, none⟩))) : StQ md ops Q nt ins kd w0 o :=
 kPure2 s s' _ _ _ hg h h' hs hs' (fun a w e1 e2 => by
  unfold execOp
  simp only [ho, e1, e2, Sem.run_bind, run_indexD b off n c i hi, Result.andThen_ok]
  rfl) hk
end
theorem enters_copy : Enters 54 := fun _ _ => by kernel_rfl
theorem run_add1 (n : Nat) (hn : n ≤ 1000000) (w : World) : (binOp .add 3 (.int .i64 (n : Int)) (.int .i64 1)).run Tryz.prog w = .ok (.int .i64 ((n + 1 : Nat) : Int)) w := by
 simp [binOp, go_sem]
 simp [IntKind.wrap, IntKind.signed, IntKind.bits]
 omega
theorem map1 {f : Operand → Value} (x : Operand) : (#[x] : Array Operand).map f = #[f x] := by simp
theorem map2 {f : Operand → Value} (x y : Operand) : (#[x, y] : Array Operand).map f = #[f x, f y] := by simp
def kdSq (B : Nat) (o sv : Value) (i b off : Nat) (x y : List ByteArray) (s : Nat) : Kq :=
 if s = 3 ∨ s = 13 then .val o else if s = 0 ∨ s = 14 ∨ s = 19 then .val sv else if s = 4 ∨ s = 15 ∨ s = 20 then .val (.int .i64 (i : Nat)) else if s = 16 then .val (.pointer (some ⟨b, off + i, none⟩)) else if s = 17 then .strs x else if s = 18 then .ows B x else
 if s = 21 then .val (.int .i64 ((i + 1 : Nat) : Int)) else if s = 22 then .val (.pointer (some ⟨b, off + (i + 1), none⟩)) else if s = 23 then .strs y else if s = 24 then .ows B y else if s = 25 then .oq B x y else if s = 26 then .orow B x y else .any
set_option maxRecDepth 20000 in
set_option maxHeartbeats 2000000 in
theorem l11Sequents_any (ps : List SqT) (hn : ps.length ≤ 100) (hb : ∀ p ∈ ps, p.1.length ≤ 1000000 ∧ p.2.length ≤ 1000000) (v : Value) (w : World) (hv : SdL w v (flatQ ps)) :
  Calls Tryz.prog 58 #[v] w fun e w' => ∃ v', e = .returned v' ∧ (∃ p n c, v' = .slice p n c) ∧ SqL w' v' ps ∧ Keeps w w' := by
 have HV := hid (fun wz (kz : Keeps w wz) => hv.keeps kz)
 obtain ⟨p, c, rfl, hle, hmx, _⟩ := hv.shape
 unfold maxLen at hmx
 have HL := hid (flatQ_len ps)
 have HG := hid (flatQ_get ps)
 have HB := hid hb
 have HT : Hid (ps.take ps.length = ps) := hid (List.take_length)
 have hln := flatQ_len ps
 generalize flatQ ps = xs at *
 rw [hln] at *
 clear hv hb hln
 go_enter Tryz.func58, Tryz.ntmps58
 go_wp2
 go_loopw [3, 4] (fun o i' wr => ∃ (k : Nat), k ≤ ps.length ∧ i' = .int .i64 ((k * 2 : Nat) : Int) ∧ SqO wr w.heap.size o (ps.take k) ∧ Keeps w wr) (fun _ i' _ => ps.length * 2 - (intOf i').toNat)
 case atStart => exact ⟨0, by omega, rfl, by simpa using SqO.empty w, (Keeps.refl w).alloc _⟩
 case round =>
  obtain ⟨k, hk, rfl, hown, kw⟩ := hrel
  have HO := hid hown
  obtain ⟨po, no, co, rfl⟩ := hown.sh
  clear hown
  by_cases hlt : k < ps.length
  ·have hlt' : ((k * 2 : Nat) : Int) + 1 < (ps.length * 2 : Nat) := by omega
   have hs1 := kw.size
   go_upto_region 5 with fail
   have kd := (Keeps.refl wr).drew
   have hsd := HV.out _ (kw.trans kd)
   obtain ⟨g1, g2⟩ := HG.out k hlt
   obtain ⟨q1, e1⟩ := List.getElem?_eq_some_iff.1 g1
   obtain ⟨q2, e2⟩ := List.getElem?_eq_some_iff.1 g2
   obtain ⟨b, off, p1, n1, c1, rfl, z1, hx⟩ := hsd.get (k * 2) q1
   obtain ⟨b', off', p2, n2, c2, e3, z2, hy⟩ := hsd.get (k * 2 + 1) q2
   cases e3
   rw [e1] at hx
   rw [e2] at hy
   obtain ⟨l1, l2⟩ := HB.out ps[k] (List.getElem_mem hlt)
   refine wp_region_tail (M := 14) (L := 16) (nt := 29) (ins := [0, 3, 4]) (ds0 := [13, 14, 15, 16, 17, 18, 19, 20, 21, 22, 23, 24, 25, 26]) (ds := [13, 14, 15, 16, 17, 18, 19, 20, 21, 22, 23, 24, 25, 26, 27, 3]) (by kernel_rfl) (by kernel_rfl) (fun s v w' => (kdSq w.heap.size (.slice po no co) (.slice (some ⟨b, off, none⟩) (ps.length * 2) c) (k * 2) b off ps[k].1 ps[k].2 s).holds v w') (fun _ _ _ _ h hv => Kq.keeps h hv)
    (fun m f w' => SqO w' w.heap.size (f (if m = 14 then 27 else 3)) (ps.take (k + 1)) ∧ Keeps w w') ?_ (by kernel_rfl) rfl ?_ ?_
   ·refine stF (by decide) (kMove 3 (.inl rfl) rfl (by kernel_rfl) (fun d hd => by cases hd; rfl)) ?_
    refine stF (by decide) (kMove 0 (.inl rfl) rfl (by kernel_rfl) (fun d hd => by cases hd; rfl)) ?_
    refine stF (by decide) (kMove 4 (.inl rfl) rfl (by kernel_rfl) (fun d hd => by cases hd; rfl)) ?_
    refine stF (by decide) (kIndexD 14 15 b off (ps.length * 2) c (k * 2) (by omega) rfl rfl (by kernel_rfl) (by kernel_rfl) rfl rfl (fun d hd => by cases hd; rfl)) ?_
    refine stF (by decide) (kLoadS 16 _ _ _ rfl rfl (by kernel_rfl) rfl z1 hx (fun d hd => by cases hd; rfl)) ?_
    refine stF (by decide) (kCall 54 _ _ rfl enters_copy rfl (fun a w1 h1 hv1 => ?_)) ?_
    ·have h17 : StrsP w1 (a.eval (.tmp 17)) ps[k].1 := hv1 17 (by kernel_rfl)
     rw [map1]
     refine (l11Copy_any _ _ w1 h17.1 l1).mono ?_
     rintro e w2 ⟨b3, n3, c3, rfl, h3, k3⟩
     exact ⟨_, rfl, k3, fun d hd => by cases hd; exact h3.mono (Nat.le_trans (kw.trans kd).size h1.size)⟩
    refine stF (by decide) (kMove 0 (.inl rfl) rfl (by kernel_rfl) (fun d hd => by cases hd; rfl)) ?_
    refine stF (by decide) (kMove 4 (.inl rfl) rfl (by kernel_rfl) (fun d hd => by cases hd; rfl)) ?_
    refine stF (by decide) (kPure1 20 (.int .i64 ((k * 2 : Nat) : Int)) (.int .i64 ((k * 2 + 1 : Nat) : Int)) rfl (by kernel_rfl) rfl (fun a w1 h1 => ?_) (fun d hd => by cases hd; rfl)) ?_
    ·unfold execOp
     have hc1 : a.eval (.const (.int .i64 1)) = .int .i64 1 := rfl
     simp only [h1, hc1, Sem.run_bind, run_add1 (k * 2) (by omega)]
     rfl
    refine stF (by decide) (kIndexD 19 21 b off (ps.length * 2) c (k * 2 + 1) (by omega) rfl rfl (by kernel_rfl) (by kernel_rfl) rfl rfl (fun d hd => by cases hd; rfl)) ?_
    refine stF (by decide) (kLoadS 22 _ _ _ rfl rfl (by kernel_rfl) rfl z2 hy (fun d hd => by cases hd; rfl)) ?_
    refine stF (by decide) (kCall 54 _ _ rfl enters_copy rfl (fun a w1 h1 hv1 => ?_)) ?_
    ·have h17 : StrsP w1 (a.eval (.tmp 23)) ps[k].2 := hv1 23 (by kernel_rfl)
     rw [map1]
     refine (l11Copy_any _ _ w1 h17.1 l2).mono ?_
     rintro e w2 ⟨b3, n3, c3, rfl, h3, k3⟩
     exact ⟨_, rfl, k3, fun d hd => by cases hd; exact h3.mono (Nat.le_trans (kw.trans kd).size h1.size)⟩
    refine stF (by decide) (kBuildO w.heap.size 18 24 ps[k].1 ps[k].2 rfl rfl (by kernel_rfl) (by kernel_rfl) rfl rfl (fun d hd => by cases hd; rfl)) ?_
    refine stF (by decide) (kRowO w.heap.size 25 ps[k].1 ps[k].2 rfl rfl (by kernel_rfl) rfl (fun d hd => by cases hd; rfl)) ?_
    refine stH ?_ (stT (by decide) ?_ True.intro)
    ·intro a w1 K hsa h1 hin hds hK
     have h13 : a.eval (.tmp 13) = .slice po no co := hds 13 (by decide)
     have h26 : ∃ p a' b', a.eval (.tmp 26) = .slice p 1 1 ∧ At w1 p [a', b'] ∧ OwnS w1 w.heap.size a' ps[k].1 ∧ OwnS w1 w.heap.size b' ps[k].2 := hds 26 (by decide)
     obtain ⟨p9, a9, b9, e9, t9, y9, z9⟩ := h26
     have hw : Keeps wr w1 := kd.trans h1
     refine appQK (.tmp 13) (.tmp 26) rfl w.heap.size _ _ h13 (HO.out.keeps hw) p9 1 a9 b9 _ _ e9 t9 y9 z9 (kw.trans hw).size (by simp; omega) ?_
     intro v' w' j1 j2 j3
     refine hK v' w' ⟨?_, (kw.trans hw).grown j2 j3⟩
     show SqO w' w.heap.size v' (ps.take (k + 1))
     rw [show ps.take (k + 1) = ps.take k ++ [ps[k]] by rw [List.take_add_one, List.getElem?_eq_getElem hlt]; rfl]
     exact j1
    ·intro a w1 K hsa hF hK
     unfold Oper.wp execOp
     simp only [Sem.run_pure]
     exact hK _ _ ⟨hF.1, hF.2⟩
   ·intro s hs
    have : s = 0 ∨ s = 3 ∨ s = 4 := by simpa using hs
    rcases this with rfl | rfl | rfl <;> rfl
   ·intro f w' hF
    obtain ⟨hq, hkk⟩ := hF
    have HQ := hid hq
    obtain ⟨p9, n9, c9, e9⟩ := hq.sh
    simp only [putAll, Act.put, List.setIfInBounds_toArray, List.set_cons_zero, List.set_cons_succ]
    clear hq
    go_wp2_with fail
    go_roundw
    case rel => exact ⟨k + 1, by omega, by go_num, HQ.out, hkk⟩
    case measure => simp [intOf]; omega
  ·obtain rfl : k = ps.length := by omega
   have hlt' : ¬ (((ps.length * 2 : Nat) : Int) + 1 < (ps.length * 2 : Nat)) := by omega
   go_wp2_with fail
   go_ret
   have h := HO.out
   rw [HT.out] at h
   exact ⟨_, rfl, ⟨_, _, _, rfl⟩, h.sql (by omega) (fun q hq => ⟨by have := (HB.out q hq).1; omega, by have := (HB.out q hq).2; omega⟩), kw⟩
end Go.Proofs.YtkkcfifnkcnceaaGreat
