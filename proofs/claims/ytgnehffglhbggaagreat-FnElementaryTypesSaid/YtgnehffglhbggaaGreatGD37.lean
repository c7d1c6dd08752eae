/- FnElementaryTypes. (printed by mkd37.py) -/
import Derived.Test.YtgnehffglhbggaaGreatGDR
import Derived.Test.YtgnehffglhbggaaGreatGL2
import Derived.Test.YtgnehffglhbggaaGreatGNX
import Derived.Test.YtgnehffglhbggaaGreatGPR
import Derived.Test.YtgnehffglhbggaaGreatGNK
import Derived.Test.YtgnehffglhbggaaGreatGHL
namespace Go.Proofs.YtgnehffglhbggaaGreat
open Go.RowKit
/-- an append of a text, and where the new row lies -/
theorem appSLK {w : World} {o : Oper} {a : Act} {K : Act → World → Prop} {Q : Exit → Act → World → Prop} (s x : Operand)
    (ho : o.op = .call { callee := .builtin .append, args := #[s, x], argTypes := #[22, 22] }) (base : Nat) (v : Value) (xs : List ByteArray) (hs : a.eval s = v) (hown : OwnS w base v xs)
    (u : Value) (y : ByteArray) (hx : a.eval x = u) (hu : Strs w u [y]) (hbase : base ≤ w.heap.size) (hlen : xs.length ≤ 1000000)
    (h : ∀ v' w', OwnS w' base v' (xs ++ [y]) → w.grownBy w' v.ownBlock → (∀ k, v.ownBlock = some k → base ≤ k) → (∀ k, v'.ownBlock = some k → v.ownBlock = some k ∨ w.heap.size ≤ k) → K (a.put o.dst v') w') : o.wp Tryz.prog a w K Q := by
  obtain ⟨i0, hi, hz0, hz1, hz2⟩ := info_parts infoS
  obtain ⟨p, cap, rfl, _, _, hat, _⟩ := hu.at
  obtain ⟨b, off, rfl, hc⟩ := hat 0 (by simp [strCells])
  refine wp_append_lies w s x _ ho base _ i0 _ 1 16 Tryz.underlying22 hi hz0 hz1 hz2 rfl (by decide) v _ _ hs hown ⟨b, off, none⟩ 1 cap [.string y] hx (by simp) ?_ (by simp [Value.oneCell']) (by omega) (by unfold maxLen; omega) (by omega) hbase _ rfl ?_
  · intro j u hj
    cases j with
    | zero => simp at hj; subst hj; simpa [Addr.add, strCells] using hc
    | succ j => simp at hj
  · intro g c' w' h2 h3 h4 h5
    refine h _ w' ?_ h3 (fun k e => (World.ownsRow.lt hown k e).1) (fun k e => ?_)
    · unfold OwnS
      rw [List.length_append, show strCells (xs ++ [y]) = strCells xs ++ [.string y] by simp [strCells]]
      exact h2
    · have : k = g := by simpa [Value.ownBlock] using e.symm
      subst this
      rcases h4 with h4 | h4
      · exact .inl h4
      · exact .inr (by omega)
theorem stepSL {w : World} {ops : Array Oper} {o : Oper} {a : Act} {K : Act → World → Prop} {Q : Exit → Act → World → Prop} {E : Prop} (hgd : o.guard = none) (s x : Operand)
    (ho : o.op = .call { callee := .builtin .append, args := #[s, x], argTypes := #[22, 22] }) (base : Nat) (v : Value) (xs : List ByteArray) (hs : a.eval s = v) (hown : OwnS w base v xs)
    (u : Value) (y : ByteArray) (hx : a.eval x = u) (hu : Strs w u [y]) (hbase : base ≤ w.heap.size) (hlen : xs.length ≤ 1000000)
    (h : ∀ v' w', OwnS w' base v' (xs ++ [y]) → w.grownBy w' v.ownBlock → (∀ k, v.ownBlock = some k → base ≤ k) → (∀ k, v'.ownBlock = some k → v.ownBlock = some k ∨ w.heap.size ≤ k) → K (a.put o.dst v') w') : if Region.wanted o (yielded ops a.tmps) = true then Oper.wp Tryz.prog o a w K Q else E := by
  rw [if_pos (by simp [Region.wanted, hgd])]
  exact appSLK s x ho base v xs hs hown u y hx hu hbase hlen h
/-- the sequent while it is made: its box, its two sides -/
structure SqM (w1 wr : World) (r : Nat) (a b : Value) (A C : List ByteArray) : Prop where
  box : BoxG wr r 29 [a, b]
  ra : OwnS wr w1.heap.size a A
  rb : OwnS wr w1.heap.size b C
  ap : ∀ k, a.ownBlock = some k → b.ownBlock ≠ some k
  kp : Keeps w1 wr
  hr : w1.heap.size ≤ r
theorem SqM.keeps {w1 wr w' : World} {r : Nat} {a b : Value} {A C : List ByteArray} (h : SqM w1 wr r a b A C) (k : Keeps wr w') : SqM w1 w' r a b A C := ⟨h.box.keeps k, h.ra.keeps k, h.rb.keeps k, h.ap, h.kp.trans k, h.hr⟩
theorem SqM.boxA {w1 wr w' : World} {r : Nat} {a b : Value} {A C : List ByteArray} (h : SqM w1 wr r a b A C) (g : wr.grownBy w' a.ownBlock) : BoxG w' r 29 [a, b] := h.box.other h.ra (by decide) g
theorem SqM.boxC {w1 wr w' : World} {r : Nat} {a b : Value} {A C : List ByteArray} (h : SqM w1 wr r a b A C) (g : wr.grownBy w' b.ownBlock) : BoxG w' r 29 [a, b] := h.box.other h.rb (by decide) g
theorem SqM.pushA {w1 wr w' : World} {r : Nat} {a b a' : Value} {A A' C : List ByteArray} (h : SqM w1 wr r a b A C) (g : wr.grownBy w' a.ownBlock) (ha : OwnS w' w1.heap.size a' A') (hn : ∀ k, a'.ownBlock = some k → a.ownBlock = some k ∨ wr.heap.size ≤ k) : SqM w1 (w'.setCell ⟨r, 0, none⟩ a') r a' b A' C := by
  have hb := h.boxA g
  have hc : OwnS w' w1.heap.size b C := own_touch h.rb (Touch.grown g) (fun i e hi => h.ap i hi.symm e)
  exact ⟨hb.set 0 a', own_boxed ha hb (by decide), own_boxed hc hb (by decide), fun k e e5 => by
    rcases hn k e with h1 | h1
    · exact h.ap k h1 e5
    · have := (h.rb.len k e5).2; omega, (h.kp.grown g (fun k e => (h.ra.len k e).1)).setCell h.hr a', h.hr⟩
theorem SqM.pushC {w1 wr w' : World} {r : Nat} {a b b' : Value} {A C C' : List ByteArray} (h : SqM w1 wr r a b A C) (g : wr.grownBy w' b.ownBlock) (hb' : OwnS w' w1.heap.size b' C') (hn : ∀ k, b'.ownBlock = some k → b.ownBlock = some k ∨ wr.heap.size ≤ k) : SqM w1 (w'.setCell ⟨r, 1, none⟩ b') r a b' A C' := by
  have hb := h.boxC g
  have hc : OwnS w' w1.heap.size a A := own_touch h.ra (Touch.grown g) (fun i e hi => h.ap i e hi.symm)
  exact ⟨hb.set 1 b', own_boxed hc hb (by decide), own_boxed hb' hb (by decide), fun k e e5 => by
    rcases hn k e5 with h1 | h1
    · exact h.ap k e h1
    · have := (h.ra.len k e).2; omega, (h.kp.grown g (fun k e => (h.rb.len k e).1)).setCell h.hr b', h.hr⟩
theorem SqM.start (w1 : World) : SqM w1 (((w1.alloc (.cells #[] 9)).alloc (.cells #[] 9)).alloc (.cells #[.slice (some ⟨w1.heap.size, 0, none⟩) 0 0, .slice (some ⟨w1.heap.size + 1, 0, none⟩) 0 0] 29)) (w1.heap.size + 1 + 1) (.slice (some ⟨w1.heap.size, 0, none⟩) 0 0) (.slice (some ⟨w1.heap.size + 1, 0, none⟩) 0 0) [] [] := by
  have h1 := OwnS.empty w1
  have h2 := OwnS.empty (w1.alloc (.cells #[] 9))
  have h3 := BoxG.made ((w1.alloc (.cells #[] 9)).alloc (.cells #[] 9)) 29 [.slice (some ⟨w1.heap.size, 0, none⟩) 0 0, .slice (some ⟨w1.heap.size + 1, 0, none⟩) 0 0] (by simp) (by simp)
  rw [size1] at h2
  rw [size1, size1] at h3
  have k1 := (Keeps.refl (w1.alloc (.cells #[] 9))).alloc (.cells #[] 9)
  have k2 := (Keeps.refl ((w1.alloc (.cells #[] 9)).alloc (.cells #[] 9))).alloc (.cells #[.slice (some ⟨w1.heap.size, 0, none⟩) 0 0, .slice (some ⟨w1.heap.size + 1, 0, none⟩) 0 0] 29)
  exact ⟨h3, h1.keeps (k1.trans k2), (h2.keeps k2).mono (by omega), fun k e e5 => by simp [Value.ownBlock] at e e5; omega, ((Keeps.refl w1).alloc _).trans (k1.trans k2), by omega⟩
/-- what the law's own sequent is -/
theorem ownSq {s : ByteArray} {ss tt : List ByteArray} (hk : srC s ss tt = 0) (m : Nat) (hm : m < 2 ^ (epR ss tt).length) :
    epC ss tt = 0 ∧ (epR ss tt).length ≤ 8 ∧ Mid (pickT (epR ss tt) m true (epR ss tt).length) ∧ Mid (pickT (epR ss tt) m false (epR ss tt).length) ∧ srC s (pickT (epR ss tt) m true (epR ss tt).length) (pickT (epR ss tt) m false (epR ss tt).length) = 0 ∧
      mtR s (pickT (epR ss tt) m true (epR ss tt).length) (pickT (epR ss tt) m false (epR ss tt).length) = !decide ((m : Int) ∈ stR s ss tt) := by
  have ho := srC_ok hk
  have hq : isQ ss tt = true := isQ_of ho.h1 ho.h2 ho.hs ho.ht
  have hG := seG_fine ho.hs ho.ht
  have he : epR ss tt = elT (fmL (ss ++ tt)) := by unfold epR; rw [if_pos hq]
  have hl : (elT (fmL (ss ++ tt))).length ≤ 8 := by rw [← elF_len]; exact ho.h8
  rw [he] at hm ⊢
  have hmid : ∀ b, Mid (pickT (elT (fmL (ss ++ tt))) m b (elT (fmL (ss ++ tt))).length) := fun b x hx => by
    obtain ⟨t, ht⟩ := (tySq_side hG m b).1 x hx
    have := ht.small
    omega
  have hE := tySq_el hG m
  have hA : ∀ b, (pickT (elT (fmL (ss ++ tt))) m b (elT (fmL (ss ++ tt))).length).length ≤ 16 := fun b => by have := pickT_len (elT (fmL (ss ++ tt))) m b (elT (fmL (ss ++ tt))).length; omega
  have hsE : seE (pickT (elT (fmL (ss ++ tt))) m true (elT (fmL (ss ++ tt))).length) (pickT (elT (fmL (ss ++ tt))) m false (elT (fmL (ss ++ tt))).length) = elF (fmL (ss ++ tt)) := by
    unfold seE elF
    rw [hE]
  have hz : srC s (pickT (elT (fmL (ss ++ tt))) m true (elT (fmL (ss ++ tt))).length) (pickT (elT (fmL (ss ++ tt))) m false (elT (fmL (ss ++ tt))).length) = 0 := by
    have hlg : isLg s = true := by rw [ho.eq]; exact isLg_lgS _ ho.lg
    unfold srC
    rw [if_pos hlg, if_pos (isQ_of (hA true) (hA false) (tySq_side hG m true) (tySq_side hG m false)), hE, if_pos hl]
  refine ⟨by unfold epC; rw [if_pos hq], hl, hmid true, hmid false, hz, ?_⟩
  unfold mtR
  rw [if_pos hz]
  unfold mtB seN
  rw [hsE]
  have hm' : m < 2 ^ (elF (fmL (ss ++ tt))).length := by rw [elF_len]; exact hm
  rw [tySq_thm hG (lgN s) hm']
  congr 1
  unfold stR
  rw [if_pos hk, Bool.eq_iff_iff, decide_eq_true_eq]
  unfold stL livL natI seN seE
  constructor
  · intro h
    exact List.mem_map.2 ⟨m, List.mem_filter.2 ⟨List.mem_range.2 hm', h⟩, rfl⟩
  · intro h
    obtain ⟨k, h1, h2⟩ := List.mem_map.1 h
    have h2 : ((k : Nat) : Int) = (m : Int) := h2
    have : k = m := by omega
    subst this
    exact (List.mem_filter.1 h1).2
theorem wrap_two : ∀ l : Fin 9, wrap64 (2 ^ min l.1 64) = ((2 ^ l.1 : Nat) : Int) := by
  intro l; obtain ⟨l, hl⟩ := l; show wrap64 (2 ^ min l 64) = ((2 ^ l : Nat) : Int); rw [show min l 64 = l from by omega]
  have h : 2 ^ l ≤ 256 := two8 (by omega)
  have e : (2 : Int) ^ l = ((2 ^ l : Nat) : Int) := by push_cast; rfl
  rw [e]; generalize 2 ^ l = n at h; unfold wrap64; omega
theorem pickT_yes {T : List ByteArray} {m i : Nat} {b : Bool} (h : m.testBit i = b) : pickT T m b (i + 1) = pickT T m b i ++ [T.getD i ⟨#[]⟩] := by rw [pickT, if_pos (by rw [h]; simp)]
theorem pickT_no {T : List ByteArray} {m i : Nat} {b : Bool} (h : m.testBit i = !b) : pickT T m b (i + 1) = pickT T m b i := by rw [pickT, if_neg (by rw [h]; cases b <;> simp)]
theorem sd_mid2 {m : Nat} {w : World} {b : Nat} {v : Value} (h : SideD m w b v) (hm : m ≤ 1000) : ∃ ss, Strs w v ss ∧ Mid ss := by
  obtain ⟨g, n, c, ss, rfl, h1, h2, h3⟩ := h
  exact ⟨ss, h1.strs (by omega), fun s hs => by have := h3 s hs; omega⟩
--
set_option maxRecDepth 100000 in
set_option maxHeartbeats 8000000 in
theorem lawElementaryTypes (v : Value) (n : Nat) (w : World) (hv : Bts w v n) :
    Calls Tryz.prog 7 #[v] w fun e w' => e = .returned (.bool true) ∧ Keeps w w' := by
  have HBig := hid (big_any v n w hv)
  by_cases hn : 4096 < n
  · rw [decide_eq_true hn] at HBig
    obtain ⟨pv, cv, rfl, _⟩ := hv
    go_enter Tryz.func7, Tryz.ntmps7
    go_wp2_with fail
    refine HBig.out.mono ?_; rintro e w' ⟨rfl, rfl⟩
    go_wp2_with fail
    go_ret
    exact ⟨rfl, Keeps.refl _⟩
  · rw [decide_eq_false hn] at HBig
    have HD := hid (drawSurvivingTypes_any v n w hv (by omega))
    have HRO := hid (fun wz (kz : Keeps w wz) => roll_any v n 1205 wz (hv.keeps kz) (by omega) (by omega))
    obtain ⟨pv, cv, rfl, _⟩ := hv
    go_enter Tryz.func7, Tryz.ntmps7
    go_wp2_with fail
    refine HBig.out.mono ?_; rintro e w' ⟨rfl, rfl⟩
    go_wp2_with fail
    refine HD.out.mono ?_; rintro e w1 ⟨s, x, y, rfl, _, hx, hy, k1⟩
    obtain ⟨ss, hss, hms⟩ := sd_mid2 hx (by omega)
    obtain ⟨tt, htt, hmt⟩ := sd_mid2 hy (by omega)
    obtain ⟨p3, n3, c3, rfl⟩ := hx.shape
    obtain ⟨q3, m3, e3, rfl⟩ := hy.shape
    have kB := (Keeps.refl w1).alloc (.cells #[.slice p3 n3 c3, .slice q3 m3 e3] 29)
    obtain ⟨c0, c1⟩ := BoxQ.made w1 (.slice p3 n3 c3) (.slice q3 m3 e3) 29
    have hl1 := stR_len s ss tt
    have hl2 := epR_len ss tt
    have HI := hid (implSurvivingTypes s ss tt _ _ _ (hss.keeps kB) (htt.keeps kB) hms hmt)
    have HS := hid (fun wz (kz : Keeps w1 wz) => specSurvivingTypes s ss tt _ _ wz (hss.keeps kz) (htt.keeps kz) hms hmt)
    have HE := hid (fun wz (kz : Keeps w1 wz) => implElementaryParts ss tt _ _ wz (hss.keeps kz) (htt.keeps kz) hms hmt)
    have HF := hid (fun wz (kz : Keeps w1 wz) => specElementaryParts ss tt _ _ wz (hss.keeps kz) (htt.keeps kz) hms hmt)
    have HLI := hid (fun v v' wz h h' => likeInts_same (stR s ss tt) v v' wz h h')
    have HLT := hid (fun v v' wz h h' => likeTexts5_same (epR ss tt) v v' wz h h')
    have HOWN := hid (fun (h : srC s ss tt = 0) m hm => ownSq h m hm)
    have HHI := hid (fun x v wz h => hasInt_any (stR s ss tt) x v wz h)
    have K1 := k1.trans kB
    clear hx hy hss htt hms hmt HD HBig
    generalize hR : stR s ss tt = R at *
    generalize hT : epR ss tt = T at *
    generalize hEC : epC ss tt = ec at *
    clear hR hT
    go_wp2_with fail
    refine HI.out.mono ?_; rintro e w2 ⟨v2, rfl, hv2, k2⟩
    obtain ⟨p4, q4, rfl, _⟩ := At.of_own hv2
    have d0 := k2.cell c0
    have d1 := k2.cell c1
    have K2 := kB.trans k2
    have hi2 := hv2.ints (by omega)
    clear hv2 c0 c1 HI
    go_wp2_with fail
    refine (HS.out _ K2).mono ?_; rintro e w3 ⟨v3, rfl, hv3, k3⟩
    have e0 := k3.cell d0
    have e1 := k3.cell d1
    have K3 := K2.trans k3
    obtain ⟨p5, q5, rfl, _⟩ := id hv3
    clear d0 d1 HS
    go_wp2_with fail
    refine (HE.out _ K3).mono ?_; rintro e w4 ⟨v4, rfl, hv4, k4⟩
    have f0 := k4.cell e0
    have f1 := k4.cell e1
    have K4 := K3.trans k4
    obtain ⟨p6, q6, rfl, _⟩ := At.of_own hv4
    clear e0 e1 HE
    go_wp2_with fail
    refine (HF.out _ K4).mono ?_; rintro e w5 ⟨v5, rfl, hv5, k5⟩
    obtain ⟨p7, q7, rfl, _⟩ := At.of_own hv5
    have K5 := K4.trans k5
    have HL1 := hid (HLI.out _ _ w5 (hi2.keeps ((k3.trans k4).trans k5)) (hv3.keeps (k4.trans k5)))
    have H2 := hid (fun wz (kz : Keeps w5 wz) => HLT.out _ _ wz (((hv4.keeps k5).strs (by omega)).keeps kz) ((hv5.strs (by omega)).keeps kz))
    have HDU := hid (fun wz (kz : Keeps w5 wz) => (hv5.strs (by omega)).keeps kz)
    have HMO := hid (fun wz (kz : Keeps w5 wz) => hv3.keeps ((k4.trans k5).trans kz))
    clear f0 f1 hi2 hv3 hv4 hv5 HF HLI HLT
    go_wp2_with fail
    refine HL1.out.mono ?_; rintro e w6 ⟨rfl, k6⟩
    go_wp2_with fail
    refine (H2.out _ k6).mono ?_; rintro e w7 ⟨rfl, k7⟩
    have K7 := k6.trans k7
    have KW := (k1.trans K5).trans K7
    by_cases hz : srC s ss tt = 0
    · have hO := HOWN.out hz
      have HZ := hid hz
      rw [hz]
      go_wp2_with fail
      have HR7 := hid (HRO.out w7 KW)
      go_wp2_with fail
      refine HR7.out.mono ?_; rintro e w8 ⟨B, rfl, hB, hsB, k8⟩
      go_wp2_with fail
      obtain ⟨hec, hl8, _⟩ := hO 0 (Nat.two_pow_pos _)
      have hpw := wrap_two ⟨T.length, by omega⟩
      have hp8 : 2 ^ T.length ≤ 256 := two8 hl8
      rw [hpw]
      refine (below_any ((2 ^ T.length : Nat) : Int) B w8 hsB (by omega)).mono ?_; rintro e w9 ⟨m, rfl, hm, d9⟩
      have hp1 : 0 < 2 ^ T.length := Nat.two_pow_pos _
      have hm2 : m < 2 ^ T.length := by omega
      obtain ⟨_, _, hmA, hmC, hz9, hmt⟩ := hO m hm2
      have hs57 := K7.size
      have K9 := Dr.keepsOf (KW.trans k8) (by have := KW.size; omega) d9
      have K59 := Dr.keepsOf (K7.trans k8) (by omega) d9
      have hm256 : m < 256 := by omega
      have HMA := hid hmA
      have HMC := hid hmC
      have HIMT := hid (fun a b wz (ha : Strs wz a (pickT T m true T.length)) (hb : Strs wz b (pickT T m false T.length)) => implIsModalTheorem s (pickT T m true T.length) (pickT T m false T.length) a b wz ha hb HMA.out HMC.out)
      rw [hz9, hmt] at HIMT
      have HHM := hid (HHI.out (m : Int))
      have HST := hid (SqM.start w9)
      have HPL := hid (fun b i => pickT_len T m b i)
      have HGD := hid (fun i (h : i < T.length) => (show T.getD i ⟨#[]⟩ = T[i] from by rw [List.getD_eq_getElem?_getD, List.getElem?_eq_getElem h]; rfl))
      have HDU9 := hid (fun wz (kz : Keeps w9 wz) => HDU.out wz (K59.trans kz))
      have HMO9 := hid (fun wz (kz : Keeps w9 wz) => HMO.out wz (K59.trans kz))
      clear hO hpw hmA hmC hz9 hmt HOWN HDU HMO hm hp8 hp1 hm2 hz HHI hsB d9 K7 K59 hs57 KW k8 hB K5 K4 K3 K2 kB k1
      generalize decide ((m : Int) ∈ R) = dm at *
      go_wp2_with fail
      generalize ((w9.alloc (.cells #[] 9)).alloc (.cells #[] 9)).alloc (.cells #[.slice (some ⟨w9.heap.size, 0, none⟩) 0 0, .slice (some ⟨w9.heap.size + 1, 0, none⟩) 0 0] 29) = wa at *
      generalize hr : w9.heap.size + 1 + 1 = r at *
      have hrr : w9.heap.size + 2 = r := by omega
      clear hr
      go_loopw [16] (fun i' wr => ∃ (i : Nat) (a b : Value), i ≤ T.length ∧ i' = .int .i64 i ∧ SqM w9 wr r a b (pickT T m true i) (pickT T m false i)) (fun i' _ => T.length - (intOf i').toNat)
      case atStart => exact ⟨0, _, _, by omega, rfl, HST.out⟩
      case round =>
        obtain ⟨i, a, b, hi, rfl, hq⟩ := hrel
        clear HST
        obtain ⟨pa, qa, rfl, hqa, hxa, -⟩ := At.of_own hq.ra
        obtain ⟨pb, qb, rfl, hqb, hxb, -⟩ := At.of_own hq.rb
        have HQ := hid hq
        have x0 := hq.box.cell 0 (by simp)
        have x1 := hq.box.cell 1 (by simp)
        simp only [List.getElem_cons_succ, List.getElem_cons_zero] at x0 x1
        have hlA := HPL.out true i
        have hlC := HPL.out false i
        by_cases hlt : i < T.length
        · have hlt' : (i : Int) < T.length := by omega
          obtain ⟨b1, o1, rfl, h1⟩ := (HDU9.out wr hq.kp).get i hlt
          obtain ⟨b9, o9, e9, h9⟩ := (HDU9.out w9 (Keeps.refl _)).get i hlt
          cases e9
          have hb9 : b1 < w9.heap.size := World.block_lt_of_cell? _ _ h9
          have HBT := hid (bit5_any m i wr hm256 (by omega))
          have HGi := hid (HGD.out i hlt)
          have hYT := fun h => pickT_yes (T := T) (m := m) (i := i) (b := true) h
          have hNT := fun h => pickT_no (T := T) (m := m) (i := i) (b := true) h
          have hYF := fun h => pickT_yes (T := T) (m := m) (i := i) (b := false) h
          have hNF := fun h => pickT_no (T := T) (m := m) (i := i) (b := false) h
          rw [HGi.out] at hYT hYF
          have HYT := hid hYT
          have HNT := hid hNT
          have HYF := hid hYF
          have HNF := hid hNF
          have hsz := hq.kp.size
          clear hYT hNT hYF hNF h9 hq
          generalize T[i] = x at *
          generalize hA : pickT T m true i = A at *
          generalize hC : pickT T m false i = C at *
          have HAA := hid hA
          have HCC := hid hC
          clear hA hC
          cases hbt : m.testBit i
          · rw [hbt] at HBT HNT HYF
            have HA1 := hid (HNT.out rfl)
            have HC1 := hid (HYF.out rfl)
            clear hbt HNT HYF HYT HNF
            go_wp2_with fail
            refine HBT.out.mono ?_; rintro e wq ⟨rfl, rfl⟩
            have HY : Hid (∀ wz, Keeps wr wz → wz.cell? ⟨r, 1, none⟩ = some (.slice pb C.length qb) ∧ wz.cell? ⟨b1, o1 + i, none⟩ = some (.string x)) := hid (fun wz kz => ⟨kz.cell x1, kz.cell h1⟩)
            go_wp2_with fail
            refine wp_region_noPanic ?_
            refine wp_region_L (L := 9) (S := (fun w' => w'.cell? ⟨r, 1, none⟩ = some (.slice pb C.length qb) ∧ w'.cell? ⟨b1, o1 + i, none⟩ = some (.string x))) (by kernel_rfl) (HY.out _ (Keeps.refl wr).drew) (fun hHeld => ?_)
            generalize hwd : wr.drew = wd at *
            have kd1 : Keeps wr wd := by rw [← hwd]; exact (Keeps.refl wr).drew
            clear hwd
            have ka := kd1.alloc (.cells #[.string x] 9)
            have hQa := HQ.out.keeps ka
            refine wpAnyL_pure (i := 0) (oi := ⟨some 99, _, _, _, _, none⟩) (v := ?v0k20) rfl (by kernel_rfl) (by kernel_rfl) (by kernel_rfl) (by kernel_rfl) (by kernel_rfl) (fun _ _ _ h => h) (Or.inl ⟨by rfl, ?h0k20⟩) (by assumption) ?r0k20
            case h0k20 => (intro w hSw; clear hSw; go_simp; try with_reducible rfl)
            try simp only [Act.put, List.setIfInBounds_toArray, List.set_cons_zero, List.set_cons_succ]
            refine wpAnyL_take (i := 1) (oi := ⟨some 100, _, _, _, _, none⟩) (v := ?v1k20) rfl (by kernel_rfl) (by kernel_rfl) (by kernel_rfl) (by kernel_rfl) (by kernel_rfl) (by kernel_rfl) (fun _ _ _ h => h) (Or.inl ⟨by rfl, ?h1k20⟩) (by assumption) ?r1k20
            case h1k20 => (intro w hSw; (try dsimp only at hSw); go_simp; try with_reducible rfl)
            try simp only [Act.put, List.setIfInBounds_toArray, List.set_cons_zero, List.set_cons_succ]
            refine wpAnyL_pure (i := 2) (oi := ⟨some 101, _, _, _, _, none⟩) (v := ?v2k20) rfl (by kernel_rfl) (by kernel_rfl) (by kernel_rfl) (by kernel_rfl) (by kernel_rfl) (fun _ _ _ h => h) (Or.inl ⟨by rfl, ?h2k20⟩) (by assumption) ?r2k20
            case h2k20 => (intro w hSw; clear hSw; go_simp; try with_reducible rfl)
            try simp only [Act.put, List.setIfInBounds_toArray, List.set_cons_zero, List.set_cons_succ]
            refine wpAnyL_pure (i := 3) (oi := ⟨some 102, _, _, _, _, none⟩) (v := ?v3k20) rfl (by kernel_rfl) (by kernel_rfl) (by kernel_rfl) (by kernel_rfl) (by kernel_rfl) (fun _ _ _ h => h) (Or.inl ⟨by rfl, ?h3k20⟩) (by assumption) ?r3k20
            case h3k20 => (intro w hSw; clear hSw; go_simp; try with_reducible rfl)
            try simp only [Act.put, List.setIfInBounds_toArray, List.set_cons_zero, List.set_cons_succ]
            refine wpAnyL_pure (i := 4) (oi := ⟨some 103, _, _, _, _, none⟩) (v := ?v4k20) rfl (by kernel_rfl) (by kernel_rfl) (by kernel_rfl) (by kernel_rfl) (by kernel_rfl) (fun _ _ _ h => h) (Or.inl ⟨by rfl, ?h4k20⟩) (by assumption) ?r4k20
            case h4k20 => (intro w hSw; clear hSw; go_simp; try with_reducible rfl)
            try simp only [Act.put, List.setIfInBounds_toArray, List.set_cons_zero, List.set_cons_succ]
            refine wpAnyL_take (i := 5) (oi := ⟨some 104, _, _, _, _, none⟩) (v := ?v5k20) rfl (by kernel_rfl) (by kernel_rfl) (by kernel_rfl) (by kernel_rfl) (by kernel_rfl) (by kernel_rfl) (fun _ _ _ h => h) (Or.inl ⟨by rfl, ?h5k20⟩) (by assumption) ?r5k20
            case h5k20 => (intro w hSw; (try dsimp only at hSw); go_simp; try with_reducible rfl)
            try simp only [Act.put, List.setIfInBounds_toArray, List.set_cons_zero, List.set_cons_succ]
            refine wpAnyL_one (i := 6) (o := ⟨some 105, _, _, _, _, none⟩) (by kernel_rfl) rfl (fun K hK => ?_)
            go_simp
            refine hK.out _ _ (HY.out _ ka) (fun hHeld => ?_)
            clear hK K
            try simp only [Act.put, List.setIfInBounds_toArray, List.set_cons_zero, List.set_cons_succ]
            refine wpAnyL_one (i := 7) (o := ⟨some 106, _, _, _, _, none⟩) (by kernel_rfl) rfl (fun K hK => ?_)
            refine stepSL rfl (.tmp 100) (.tmp 105) rfl w9.heap.size (.slice pb C.length qb) C rfl hQa.rb _ x rfl (Strs.lit1 wd x) (by have := ka.size; have := kd1.size; omega) (by omega) ?_
            intro v7 w7 hv7 hg7 hr7 hn7
            obtain ⟨p7v, q7v, rfl, -⟩ := At.of_own hv7
            have hb7 := hQa.boxC hg7
            have z0 := hb7.cell 1 (by simp)
            have zf := hb7.froz 1
            simp only [List.getElem_cons_succ, List.getElem_cons_zero] at z0
            have yg := (Touch.grown hg7).cellOf (fun e => by have := hr7 b1 e.symm; omega) (HY.out _ ka).2
            refine hK.out _ _ (And.intro z0 yg) (fun hHeld => ?_)
            clear hK K
            try simp only [Act.put, List.setIfInBounds_toArray, List.set_cons_zero, List.set_cons_succ]
            refine wpAnyL_pure (i := 8) (oi := ⟨some 107, _, _, _, _, none⟩) (v := ?v8k20) rfl (by kernel_rfl) (by kernel_rfl) (by kernel_rfl) (by kernel_rfl) (by kernel_rfl) (fun _ _ _ h => h) (Or.inl ⟨by rfl, ?h8k20⟩) (by assumption) ?r8k20
            case h8k20 => (intro w hSw; clear hSw; go_simp; try with_reducible rfl)
            try simp only [Act.put, List.setIfInBounds_toArray, List.set_cons_zero, List.set_cons_succ]
            refine wpAnyL_last (o := ⟨none, _, _, _, _, none⟩) (by kernel_rfl) rfl (of_decide_eq_true (by kernel_rfl)) (fun K hK => ?_)
            go_simp
            refine hK.out _ _ ?_
            clear hK K
            try simp only [Act.put, List.setIfInBounds_toArray, List.set_cons_zero, List.set_cons_succ]
            refine wpAnyL_done (by kernel_rfl) ?_ _
            refine NoPanic.normal ?_
            have hP := hQa.pushC hg7 hv7 hn7
            have HP := hid hP
            clear hP hb7 hv7 hQa z0 zf ka hg7 hr7 hn7 hHeld yg
            go_wp2_with fail
            go_roundw
            case rel => exact ⟨i + 1, _, _, by omega, by go_num, by have hZ := HP.out; rw [List.length_append, List.length_singleton] at hZ; rw [HA1.out, HC1.out]; exact hZ⟩
            case measure => simp [intOf]; omega
          · rw [hbt] at HBT HYT HNF
            have HA1 := hid (HYT.out rfl)
            have HC1 := hid (HNF.out rfl)
            clear hbt HNT HYF HYT HNF
            go_wp2_with fail
            refine HBT.out.mono ?_; rintro e wq ⟨rfl, rfl⟩
            have HY : Hid (∀ wz, Keeps wr wz → wz.cell? ⟨r, 0, none⟩ = some (.slice pa A.length qa) ∧ wz.cell? ⟨b1, o1 + i, none⟩ = some (.string x)) := hid (fun wz kz => ⟨kz.cell x0, kz.cell h1⟩)
            go_wp2_with fail
            refine wp_region_noPanic ?_
            refine wp_region_L (L := 9) (S := (fun w' => w'.cell? ⟨r, 0, none⟩ = some (.slice pa A.length qa) ∧ w'.cell? ⟨b1, o1 + i, none⟩ = some (.string x))) (by kernel_rfl) (HY.out _ (Keeps.refl wr).drew) (fun hHeld => ?_)
            generalize hwd : wr.drew = wd at *
            have kd1 : Keeps wr wd := by rw [← hwd]; exact (Keeps.refl wr).drew
            clear hwd
            have ka := kd1.alloc (.cells #[.string x] 9)
            have hQa := HQ.out.keeps ka
            refine wpAnyL_pure (i := 0) (oi := ⟨some 90, _, _, _, _, none⟩) (v := ?v0k19) rfl (by kernel_rfl) (by kernel_rfl) (by kernel_rfl) (by kernel_rfl) (by kernel_rfl) (fun _ _ _ h => h) (Or.inl ⟨by rfl, ?h0k19⟩) (by assumption) ?r0k19
            case h0k19 => (intro w hSw; clear hSw; go_simp; try with_reducible rfl)
            try simp only [Act.put, List.setIfInBounds_toArray, List.set_cons_zero, List.set_cons_succ]
            refine wpAnyL_take (i := 1) (oi := ⟨some 91, _, _, _, _, none⟩) (v := ?v1k19) rfl (by kernel_rfl) (by kernel_rfl) (by kernel_rfl) (by kernel_rfl) (by kernel_rfl) (by kernel_rfl) (fun _ _ _ h => h) (Or.inl ⟨by rfl, ?h1k19⟩) (by assumption) ?r1k19
            case h1k19 => (intro w hSw; (try dsimp only at hSw); go_simp; try with_reducible rfl)
            try simp only [Act.put, List.setIfInBounds_toArray, List.set_cons_zero, List.set_cons_succ]
            refine wpAnyL_pure (i := 2) (oi := ⟨some 92, _, _, _, _, none⟩) (v := ?v2k19) rfl (by kernel_rfl) (by kernel_rfl) (by kernel_rfl) (by kernel_rfl) (by kernel_rfl) (fun _ _ _ h => h) (Or.inl ⟨by rfl, ?h2k19⟩) (by assumption) ?r2k19
            case h2k19 => (intro w hSw; clear hSw; go_simp; try with_reducible rfl)
            try simp only [Act.put, List.setIfInBounds_toArray, List.set_cons_zero, List.set_cons_succ]
            refine wpAnyL_pure (i := 3) (oi := ⟨some 93, _, _, _, _, none⟩) (v := ?v3k19) rfl (by kernel_rfl) (by kernel_rfl) (by kernel_rfl) (by kernel_rfl) (by kernel_rfl) (fun _ _ _ h => h) (Or.inl ⟨by rfl, ?h3k19⟩) (by assumption) ?r3k19
            case h3k19 => (intro w hSw; clear hSw; go_simp; try with_reducible rfl)
            try simp only [Act.put, List.setIfInBounds_toArray, List.set_cons_zero, List.set_cons_succ]
            refine wpAnyL_pure (i := 4) (oi := ⟨some 94, _, _, _, _, none⟩) (v := ?v4k19) rfl (by kernel_rfl) (by kernel_rfl) (by kernel_rfl) (by kernel_rfl) (by kernel_rfl) (fun _ _ _ h => h) (Or.inl ⟨by rfl, ?h4k19⟩) (by assumption) ?r4k19
            case h4k19 => (intro w hSw; clear hSw; go_simp; try with_reducible rfl)
            try simp only [Act.put, List.setIfInBounds_toArray, List.set_cons_zero, List.set_cons_succ]
            refine wpAnyL_take (i := 5) (oi := ⟨some 95, _, _, _, _, none⟩) (v := ?v5k19) rfl (by kernel_rfl) (by kernel_rfl) (by kernel_rfl) (by kernel_rfl) (by kernel_rfl) (by kernel_rfl) (fun _ _ _ h => h) (Or.inl ⟨by rfl, ?h5k19⟩) (by assumption) ?r5k19
            case h5k19 => (intro w hSw; (try dsimp only at hSw); go_simp; try with_reducible rfl)
            try simp only [Act.put, List.setIfInBounds_toArray, List.set_cons_zero, List.set_cons_succ]
            refine wpAnyL_one (i := 6) (o := ⟨some 96, _, _, _, _, none⟩) (by kernel_rfl) rfl (fun K hK => ?_)
            go_simp
            refine hK.out _ _ (HY.out _ ka) (fun hHeld => ?_)
            clear hK K
            try simp only [Act.put, List.setIfInBounds_toArray, List.set_cons_zero, List.set_cons_succ]
            refine wpAnyL_one (i := 7) (o := ⟨some 97, _, _, _, _, none⟩) (by kernel_rfl) rfl (fun K hK => ?_)
            refine stepSL rfl (.tmp 91) (.tmp 96) rfl w9.heap.size (.slice pa A.length qa) A rfl hQa.ra _ x rfl (Strs.lit1 wd x) (by have := ka.size; have := kd1.size; omega) (by omega) ?_
            intro v7 w7 hv7 hg7 hr7 hn7
            obtain ⟨p7v, q7v, rfl, -⟩ := At.of_own hv7
            have hb7 := hQa.boxA hg7
            have z0 := hb7.cell 0 (by simp)
            have zf := hb7.froz 0
            simp only [List.getElem_cons_zero] at z0
            have yg := (Touch.grown hg7).cellOf (fun e => by have := hr7 b1 e.symm; omega) (HY.out _ ka).2
            refine hK.out _ _ (And.intro z0 yg) (fun hHeld => ?_)
            clear hK K
            try simp only [Act.put, List.setIfInBounds_toArray, List.set_cons_zero, List.set_cons_succ]
            refine wpAnyL_pure (i := 8) (oi := ⟨some 98, _, _, _, _, none⟩) (v := ?v8k19) rfl (by kernel_rfl) (by kernel_rfl) (by kernel_rfl) (by kernel_rfl) (by kernel_rfl) (fun _ _ _ h => h) (Or.inl ⟨by rfl, ?h8k19⟩) (by assumption) ?r8k19
            case h8k19 => (intro w hSw; clear hSw; go_simp; try with_reducible rfl)
            try simp only [Act.put, List.setIfInBounds_toArray, List.set_cons_zero, List.set_cons_succ]
            refine wpAnyL_last (o := ⟨none, _, _, _, _, none⟩) (by kernel_rfl) rfl (of_decide_eq_true (by kernel_rfl)) (fun K hK => ?_)
            go_simp
            refine hK.out _ _ ?_
            clear hK K
            try simp only [Act.put, List.setIfInBounds_toArray, List.set_cons_zero, List.set_cons_succ]
            refine wpAnyL_done (by kernel_rfl) ?_ _
            refine NoPanic.normal ?_
            have hP := hQa.pushA hg7 hv7 hn7
            have HP := hid hP
            clear hP hb7 hv7 hQa z0 zf ka hg7 hr7 hn7 hHeld yg
            go_wp2_with fail
            go_roundw
            case rel => exact ⟨i + 1, _, _, by omega, by go_num, by have hZ := HP.out; rw [List.length_append, List.length_singleton] at hZ; rw [HA1.out, HC1.out]; exact hZ⟩
            case measure => simp [intOf]; omega
        · obtain rfl : i = T.length := by omega
          have hlt' : ¬ ((T.length : Int) < T.length) := by omega
          have hIM := HIMT.out _ _ wr (hq.ra.strs (by omega)) (hq.rb.strs (by omega))
          have HIM := hid hIM
          have hk9 := hq.kp
          clear hIM hq HQ HIMT
          go_wp2_with fail
          refine HIM.out.mono ?_; rintro e w10 ⟨rfl, k10⟩
          have HM10 := hid (HHM.out _ w10 (HMO9.out w10 (hk9.trans k10)))
          go_wp2_with fail
          refine HM10.out.mono ?_; rintro e w11 ⟨rfl, rfl⟩
          cases dm
          · go_wp2_with fail
            go_ret
            exact ⟨rfl, (K9.trans hk9).trans k10⟩
          · go_wp2_with fail
            go_ret
            exact ⟨rfl, (K9.trans hk9).trans k10⟩
    · have hz' : (srC s ss tt != 0) = true := by simpa using hz
      generalize srC s ss tt = code at *
      go_wp2_with fail
      go_ret
      exact ⟨rfl, KW⟩
end Go.Proofs.YtgnehffglhbggaaGreat
