import Derived.Test.YtkkcfifnkcnceaaGreatHEP
/- The reference's premises of a rule. -/
namespace Go.Proofs.YtkkcfifnkcnceaaGreat
open Go.RowKit
theorem tx_ne0 {s : ByteArray} {t : Fm} (h : IsTx s t) : s ≠ ⟨#[]⟩ := fun e => by
 subst e
 have h1 := h.2.1
 have h2 := body_pos t
 rw [← h1] at h2
 exact absurd h2 (by decide)
theorem md_bx {L : Nat} {ss tt : List ByteArray} {main : ByteArray} (ht : Side tt) (h : onS tt main isBx = true) : mdQ L ss tt main = moBx L ss tt main ∧ (main = ⟨#[]⟩ ∨ ∃ t, IsTx main t ∧ (t.kind = 5 ∨ t.kind = 6)) := by
 obtain ⟨h1, _, h3⟩ := on_at h
 have hx := txF_tx (ht.1 main h1)
 refine ⟨?_, .inr ⟨_, hx, .inl ?_⟩⟩
 ·unfold mdQ
  rw [if_neg (tx_ne0 hx), if_pos h3]
 ·rw [← isKd_bx] at h3
  exact of_decide_eq_true h3
theorem md_di {L : Nat} {ss tt : List ByteArray} {main : ByteArray} (hs : Side ss) (h : onS ss main isDi = true) : mdQ L ss tt main = moDi L ss tt main ∧ (main = ⟨#[]⟩ ∨ ∃ t, IsTx main t ∧ (t.kind = 5 ∨ t.kind = 6)) := by
 obtain ⟨h1, _, h3⟩ := on_at h
 have hx := txF_tx (hs.1 main h1)
 rw [← isKd_di] at h3
 have h6 : (txF main).kind = 6 := of_decide_eq_true h3
 refine ⟨?_, .inr ⟨_, hx, .inr h6⟩⟩
 unfold mdQ
 rw [if_neg (tx_ne0 hx), if_neg]
 rw [← isKd_bx]
 unfold isKd
 rw [h6]
 decide
set_option maxRecDepth 20000 in
set_option maxHeartbeats 8000000 in
theorem l11Premises_any (lg : ByteArray) (r : Int) (main : ByteArray) (ss tt : List ByteArray) (hs : Side ss) (ht : Side tt) (a b : Value) (w : World) (ha : StrsP w a ss) (hb : StrsP w b tt) (hl : ss.length ≤ 1000 ∧ tt.length ≤ 1000) (hms : main.size ≤ 10000000) :
  Calls Tryz.prog 24 #[.string lg, .int .i64 r, .agg #[a, b], .string main] w (RetPre w (preR (lgN lg) r.toNat ss tt main)) := by
 obtain ⟨p, n, c, rfl⟩ := ha.sh
 obtain ⟨q, m, d, rfl⟩ := hb.sh
 have k1 := (Keeps.refl w).alloc (.cells #[.slice p n c, .slice q m d] 26)
 have b1 := BoxG.made w 26 [.slice p n c, .slice q m d] (by simp) (by simp)
 have HB1 := hid b1
 have HA := hid (ha.keeps k1)
 have HC := hid (hb.keeps k1)
 have HS := hid hs
 have HT := hid ht
 obtain ⟨l1, l2⟩ := hl
 clear ha hb b1 hs ht
 go_enter Tryz.func24, Tryz.ntmps24
 go_upto_region 1 with fail
 generalize w.alloc (.cells #[.slice p n c, .slice q m d] 26) = w1 at *
 go_cut [10] from 23 to 32 (fun v wx => v = .bool (rfL (lgN lg)) ∧ wx = w1)
 case first =>
  have e1 := nmT lg
  have e2 := nmS4 lg
  have e3 := nmS5 lg
  have hr : rfL (lgN lg) = (decide (lgN lg = 2) || (decide (lgN lg = 4) || decide (lgN lg = 6))) := by
   unfold rfL
   by_cases h1 : lgN lg = 2 <;> by_cases h2 : lgN lg = 4 <;> by_cases h3 : lgN lg = 6 <;> simp [h1, h2, h3]
  have HR := hid hr
  clear hr
  generalize decide (lgN lg = 2) = d2 at *
  generalize decide (lgN lg = 4) = d4 at *
  generalize decide (lgN lg = 6) = d6 at *
  cases d2 <;> cases d4 <;> cases d6 <;> (go_wp2_with fail; go_meet; exact ⟨by rw [HR.out]; rfl, rfl⟩)
 case rest =>
  obtain ⟨rfl, rfl⟩ := hcut
  have z0 := HB1.out.cell 0 (by simp)
  have z1 := HB1.out.cell 1 (by simp)
  simp only [List.getElem_cons_zero, List.getElem_cons_succ] at z0 z1
  by_cases e9 : r = 9
  ·subst e9
   have HON := hid (fun wz (kz : Keeps wc wz) => l11On_any ss HS.out.1 _ main 5 (by omega) wz (HA.out.keeps kz).1)
   have HP : Hid (preR (lgN lg) (9 : Int).toNat ss tt main = if (onS ss main isBx && rfL (lgN lg)) = true then some [(insS (ss) (paI main), tt)] else none) := hid rfl
   generalize rfL (lgN lg) = rf at *
   go_wp2_with fail
   refine (HON.out _ (Keeps.refl wc)).mono ?_; rintro e w2 ⟨x, y, rfl, hab, k2⟩
   have HAB := hid hab
   clear hab HON z0 z1
   rw [isKd_bx] at HAB ⊢
   generalize onS ss main isBx = ok at *
   cases ok
   ·go_upto_region 5 with fail
    have kd := k2.trans (Keeps.refl w2).drew
    have c0 := (HB1.out.keeps kd).cell 0 (by simp)
    have c1 := (HB1.out.keeps kd).cell 1 (by simp)
    simp only [List.getElem_cons_zero, List.getElem_cons_succ] at c0 c1
    have h0 := HA.out.keeps kd
    have h1 := HC.out.keeps kd
    refine wp_region_kinds (L := 14) (nt := 125) (ins := [6, 10, 11, 13]) (ds := [44, 45, 46, 47, 48, 49, 50, 51, 52, 53, 54, 55, 8, 9]) (by kernel_rfl) (by kernel_rfl) (fun s v w' => ((fun s => if s = 6 then .val (.pointer (some ⟨w.heap.size, 0, none⟩)) else if s = 8 then .sqs [(insS (ss) x, tt)] else if s = 9 then .val (.bool false) else if s = 10 then .val (.bool rf) else if s = 11 then .val (.string x) else if s = 13 then .val (.bool false) else if s = 44 then .val (.pointer (some ⟨w.heap.size, 0, none⟩)) else if s = 45 then .strs (ss) else if s = 46 then .val (.string x) else if s = 47 then .strs (insS (ss) x) else if s = 48 then .val (.pointer (some ⟨w.heap.size, 1, none⟩)) else if s = 49 then .strs (tt) else if s = 50 then .sds [insS (ss) x, tt] else if s = 51 then .sqs [(insS (ss) x, tt)] else if s = 52 then .val (.bool false) else if s = 53 then .val (.bool false) else if s = 55 then .val (.bool false) else .any : Nat → Kq) s).holds v w') (fun _ _ _ _ h hv => Kq.keeps h hv) ?_ (by kernel_rfl) rfl ?_ ?_
    ·refine lK (kPure1 6 (.pointer (some ⟨w.heap.size, 0, none⟩)) (.pointer (some ⟨w.heap.size, 0, none⟩)) rfl (by kernel_rfl) rfl (fun a w1 h1 => by unfold execOp; simp only [h1, Sem.run_bind, run_fieldQ0 w.heap.size]; rfl) (fun d hd => by cases hd; rfl)) ?_
     refine lK (kLoadS 44 _ _ _ rfl rfl (by kernel_rfl) rfl c0 h0 (fun d hd => by cases hd; rfl)) ?_
     refine lK (kMove 11 (.inl rfl) rfl (by kernel_rfl) (fun d hd => by cases hd; rfl)) ?_
     refine lK (kIns 45 46 (ss) x rfl rfl (by kernel_rfl) (by kernel_rfl) rfl rfl (by omega) (fun d hd => by cases hd; rfl)) ?_
     refine lK (kPure1 6 (.pointer (some ⟨w.heap.size, 0, none⟩)) (.pointer (some ⟨w.heap.size, 1, none⟩)) rfl (by kernel_rfl) rfl (fun a w1 h1 => by unfold execOp; simp only [h1, Sem.run_bind, run_fieldQ1 w.heap.size]; rfl) (fun d hd => by cases hd; rfl)) ?_
     refine lK (kLoadS 48 _ _ _ rfl rfl (by kernel_rfl) rfl c1 h1 (fun d hd => by cases hd; rfl)) ?_
     refine lK (kSides2 47 49 (insS (ss) x) (tt) rfl rfl (by kernel_rfl) (by kernel_rfl) rfl rfl (fun d hd => by cases hd; rfl)) ?_
     refine lK (kSeqs 50 [(insS (ss) x, tt)] rfl rfl (by kernel_rfl) rfl (by simp) (fun p hp => by obtain rfl := List.mem_singleton.1 hp; have := (insS_len (ss) x).1; exact ⟨by show (insS (ss) x).length ≤ 1000000; omega, by show (tt).length ≤ 1000000; omega⟩) (fun d hd => by cases hd; rfl)) ?_
     refine lK (kMove 13 (.inl rfl) rfl (by kernel_rfl) (fun d hd => by cases hd; rfl)) ?_
     refine lK (kMove 52 (.inl rfl) rfl (by kernel_rfl) (fun d hd => by cases hd; rfl)) ?_
     refine lK (kOff 9 53 false rfl rfl (by decide) (by kernel_rfl) rfl (fun d hd => by cases hd; rfl)) ?_
     refine lK (kPickF 53 _ (.bool false) rfl rfl (by kernel_rfl) rfl (fun d hd => by cases hd; rfl)) ?_
     refine lK (kMove 51 (.inr rfl) rfl (by kernel_rfl) (fun d hd => by cases hd; rfl)) ?_
     refine lK (kMove 55 (.inr rfl) rfl (by kernel_rfl) (fun d hd => by cases hd; rfl)) True.intro
    ·intro s hs
     have : s = 6 ∨ s = 10 ∨ s = 11 ∨ s = 13 := by simpa using hs
     rcases this with rfl | rfl | rfl | rfl <;> rfl
    ·intro f w' hk hv
     have g6 : SqL w' (f 8) [(insS (ss) x, tt)] := hv 8 (by decide)
     have g7 : f 9 = .bool false := hv 9 (by decide)
     obtain ⟨p6, c6, e6, _⟩ := g6.shape
     rw [e6] at g6
     have G6 := hid g6
     clear g6 hv
     simp only [putAll, Act.put, List.setIfInBounds_toArray, List.set_cons_zero, List.set_cons_succ, e6, g7]
     go_wp2_with fail
     refine bodyPost_ret (v := .tuple #[.slice p6 1 c6, .bool false]) (by simp [results, Tryz.results24, go_sem]) rfl ?_
     refine RetPre.mk HP.out (fun e => ?_) G6.out ((k1.trans kd).trans hk)
     cases e
   ·go_upto_region 5 with fail
    have kd := k2.trans (Keeps.refl w2).drew
    have c0 := (HB1.out.keeps kd).cell 0 (by simp)
    have c1 := (HB1.out.keeps kd).cell 1 (by simp)
    simp only [List.getElem_cons_zero, List.getElem_cons_succ] at c0 c1
    have h0 := HA.out.keeps kd
    have h1 := HC.out.keeps kd
    refine wp_region_kinds (L := 14) (nt := 125) (ins := [6, 10, 11, 13]) (ds := [44, 45, 46, 47, 48, 49, 50, 51, 52, 53, 54, 55, 8, 9]) (by kernel_rfl) (by kernel_rfl) (fun s v w' => ((fun s => if s = 6 then .val (.pointer (some ⟨w.heap.size, 0, none⟩)) else if s = 8 then .sqs [(insS (ss) x, tt)] else if s = 9 then .val (.bool rf) else if s = 10 then .val (.bool rf) else if s = 11 then .val (.string x) else if s = 13 then .val (.bool true) else if s = 44 then .val (.pointer (some ⟨w.heap.size, 0, none⟩)) else if s = 45 then .strs (ss) else if s = 46 then .val (.string x) else if s = 47 then .strs (insS (ss) x) else if s = 48 then .val (.pointer (some ⟨w.heap.size, 1, none⟩)) else if s = 49 then .strs (tt) else if s = 50 then .sds [insS (ss) x, tt] else if s = 51 then .sqs [(insS (ss) x, tt)] else if s = 52 then .val (.bool true) else if s = 53 then .val (.bool true) else if s = 54 then .val (.bool rf) else if s = 55 then .val (.bool rf) else .any : Nat → Kq) s).holds v w') (fun _ _ _ _ h hv => Kq.keeps h hv) ?_ (by kernel_rfl) rfl ?_ ?_
    ·refine lK (kPure1 6 (.pointer (some ⟨w.heap.size, 0, none⟩)) (.pointer (some ⟨w.heap.size, 0, none⟩)) rfl (by kernel_rfl) rfl (fun a w1 h1 => by unfold execOp; simp only [h1, Sem.run_bind, run_fieldQ0 w.heap.size]; rfl) (fun d hd => by cases hd; rfl)) ?_
     refine lK (kLoadS 44 _ _ _ rfl rfl (by kernel_rfl) rfl c0 h0 (fun d hd => by cases hd; rfl)) ?_
     refine lK (kMove 11 (.inl rfl) rfl (by kernel_rfl) (fun d hd => by cases hd; rfl)) ?_
     refine lK (kIns 45 46 (ss) x rfl rfl (by kernel_rfl) (by kernel_rfl) rfl rfl (by omega) (fun d hd => by cases hd; rfl)) ?_
     refine lK (kPure1 6 (.pointer (some ⟨w.heap.size, 0, none⟩)) (.pointer (some ⟨w.heap.size, 1, none⟩)) rfl (by kernel_rfl) rfl (fun a w1 h1 => by unfold execOp; simp only [h1, Sem.run_bind, run_fieldQ1 w.heap.size]; rfl) (fun d hd => by cases hd; rfl)) ?_
     refine lK (kLoadS 48 _ _ _ rfl rfl (by kernel_rfl) rfl c1 h1 (fun d hd => by cases hd; rfl)) ?_
     refine lK (kSides2 47 49 (insS (ss) x) (tt) rfl rfl (by kernel_rfl) (by kernel_rfl) rfl rfl (fun d hd => by cases hd; rfl)) ?_
     refine lK (kSeqs 50 [(insS (ss) x, tt)] rfl rfl (by kernel_rfl) rfl (by simp) (fun p hp => by obtain rfl := List.mem_singleton.1 hp; have := (insS_len (ss) x).1; exact ⟨by show (insS (ss) x).length ≤ 1000000; omega, by show (tt).length ≤ 1000000; omega⟩) (fun d hd => by cases hd; rfl)) ?_
     refine lK (kMove 13 (.inl rfl) rfl (by kernel_rfl) (fun d hd => by cases hd; rfl)) ?_
     refine lK (kMove 52 (.inl rfl) rfl (by kernel_rfl) (fun d hd => by cases hd; rfl)) ?_
     refine lK (kOn1 9 53 true 10 (.bool rf) (.bool rf) rfl rfl (by decide) (by kernel_rfl) rfl (by kernel_rfl) rfl (fun a w1 h1 => by unfold execOp; simp only [h1, Sem.run_pure]) (fun d hd => by cases hd; rfl)) ?_
     refine lK (kPickT 53 54 _ (.bool rf) rfl rfl (by kernel_rfl) (by kernel_rfl) rfl rfl (fun d hd => by cases hd; rfl)) ?_
     refine lK (kMove 51 (.inr rfl) rfl (by kernel_rfl) (fun d hd => by cases hd; rfl)) ?_
     refine lK (kMove 55 (.inr rfl) rfl (by kernel_rfl) (fun d hd => by cases hd; rfl)) True.intro
    ·intro s hs
     have : s = 6 ∨ s = 10 ∨ s = 11 ∨ s = 13 := by simpa using hs
     rcases this with rfl | rfl | rfl | rfl <;> rfl
    ·intro f w' hk hv
     have g6 : SqL w' (f 8) [(insS (ss) x, tt)] := hv 8 (by decide)
     have g7 : f 9 = .bool rf := hv 9 (by decide)
     obtain ⟨p6, c6, e6, _⟩ := g6.shape
     rw [e6] at g6
     have G6 := hid g6
     clear g6 hv
     simp only [putAll, Act.put, List.setIfInBounds_toArray, List.set_cons_zero, List.set_cons_succ, e6, g7]
     go_wp2_with fail
     refine bodyPost_ret (v := .tuple #[.slice p6 1 c6, .bool rf]) (by simp [results, Tryz.results24, go_sem]) rfl ?_
     refine RetPre.mk HP.out (fun e => ?_) G6.out ((k1.trans kd).trans hk)
     obtain rfl := (HAB.out trivial).1 (by decide); rfl
  by_cases e10 : r = 10
  ·subst e10
   have HON := hid (fun wz (kz : Keeps wc wz) => l11On_any tt HT.out.1 _ main 6 (by omega) wz (HC.out.keeps kz).1)
   have HP : Hid (preR (lgN lg) (10 : Int).toNat ss tt main = if (onS tt main isDi && rfL (lgN lg)) = true then some [(ss, insS (tt) (paI main))] else none) := hid rfl
   generalize rfL (lgN lg) = rf at *
   go_wp2_with fail
   refine (HON.out _ (Keeps.refl wc)).mono ?_; rintro e w2 ⟨x, y, rfl, hab, k2⟩
   have HAB := hid hab
   clear hab HON z0 z1
   rw [isKd_di] at HAB ⊢
   generalize onS tt main isDi = ok at *
   cases ok
   ·go_upto_region 8 with fail
    have kd := k2.trans (Keeps.refl w2).drew
    have c0 := (HB1.out.keeps kd).cell 0 (by simp)
    have c1 := (HB1.out.keeps kd).cell 1 (by simp)
    simp only [List.getElem_cons_zero, List.getElem_cons_succ] at c0 c1
    have h0 := HA.out.keeps kd
    have h1 := HC.out.keeps kd
    refine wp_region_kinds (L := 14) (nt := 125) (ins := [6, 10, 14, 16]) (ds := [66, 67, 68, 69, 70, 71, 72, 73, 74, 75, 76, 77, 8, 9]) (by kernel_rfl) (by kernel_rfl) (fun s v w' => ((fun s => if s = 6 then .val (.pointer (some ⟨w.heap.size, 0, none⟩)) else if s = 8 then .sqs [(ss, insS (tt) x)] else if s = 9 then .val (.bool false) else if s = 10 then .val (.bool rf) else if s = 14 then .val (.string x) else if s = 16 then .val (.bool false) else if s = 66 then .val (.pointer (some ⟨w.heap.size, 0, none⟩)) else if s = 67 then .strs (ss) else if s = 68 then .val (.pointer (some ⟨w.heap.size, 1, none⟩)) else if s = 69 then .strs (tt) else if s = 70 then .val (.string x) else if s = 71 then .strs (insS (tt) x) else if s = 72 then .sds [ss, insS (tt) x] else if s = 73 then .sqs [(ss, insS (tt) x)] else if s = 74 then .val (.bool false) else if s = 75 then .val (.bool false) else if s = 77 then .val (.bool false) else .any : Nat → Kq) s).holds v w') (fun _ _ _ _ h hv => Kq.keeps h hv) ?_ (by kernel_rfl) rfl ?_ ?_
    ·refine lK (kPure1 6 (.pointer (some ⟨w.heap.size, 0, none⟩)) (.pointer (some ⟨w.heap.size, 0, none⟩)) rfl (by kernel_rfl) rfl (fun a w1 h1 => by unfold execOp; simp only [h1, Sem.run_bind, run_fieldQ0 w.heap.size]; rfl) (fun d hd => by cases hd; rfl)) ?_
     refine lK (kLoadS 66 _ _ _ rfl rfl (by kernel_rfl) rfl c0 h0 (fun d hd => by cases hd; rfl)) ?_
     refine lK (kPure1 6 (.pointer (some ⟨w.heap.size, 0, none⟩)) (.pointer (some ⟨w.heap.size, 1, none⟩)) rfl (by kernel_rfl) rfl (fun a w1 h1 => by unfold execOp; simp only [h1, Sem.run_bind, run_fieldQ1 w.heap.size]; rfl) (fun d hd => by cases hd; rfl)) ?_
     refine lK (kLoadS 68 _ _ _ rfl rfl (by kernel_rfl) rfl c1 h1 (fun d hd => by cases hd; rfl)) ?_
     refine lK (kMove 14 (.inl rfl) rfl (by kernel_rfl) (fun d hd => by cases hd; rfl)) ?_
     refine lK (kIns 69 70 (tt) x rfl rfl (by kernel_rfl) (by kernel_rfl) rfl rfl (by omega) (fun d hd => by cases hd; rfl)) ?_
     refine lK (kSides2 67 71 (ss) (insS (tt) x) rfl rfl (by kernel_rfl) (by kernel_rfl) rfl rfl (fun d hd => by cases hd; rfl)) ?_
     refine lK (kSeqs 72 [(ss, insS (tt) x)] rfl rfl (by kernel_rfl) rfl (by simp) (fun p hp => by obtain rfl := List.mem_singleton.1 hp; have := (insS_len (tt) x).1; exact ⟨by show (ss).length ≤ 1000000; omega, by show (insS (tt) x).length ≤ 1000000; omega⟩) (fun d hd => by cases hd; rfl)) ?_
     refine lK (kMove 16 (.inl rfl) rfl (by kernel_rfl) (fun d hd => by cases hd; rfl)) ?_
     refine lK (kMove 74 (.inl rfl) rfl (by kernel_rfl) (fun d hd => by cases hd; rfl)) ?_
     refine lK (kOff 9 75 false rfl rfl (by decide) (by kernel_rfl) rfl (fun d hd => by cases hd; rfl)) ?_
     refine lK (kPickF 75 _ (.bool false) rfl rfl (by kernel_rfl) rfl (fun d hd => by cases hd; rfl)) ?_
     refine lK (kMove 73 (.inr rfl) rfl (by kernel_rfl) (fun d hd => by cases hd; rfl)) ?_
     refine lK (kMove 77 (.inr rfl) rfl (by kernel_rfl) (fun d hd => by cases hd; rfl)) True.intro
    ·intro s hs
     have : s = 6 ∨ s = 10 ∨ s = 14 ∨ s = 16 := by simpa using hs
     rcases this with rfl | rfl | rfl | rfl <;> rfl
    ·intro f w' hk hv
     have g6 : SqL w' (f 8) [(ss, insS (tt) x)] := hv 8 (by decide)
     have g7 : f 9 = .bool false := hv 9 (by decide)
     obtain ⟨p6, c6, e6, _⟩ := g6.shape
     rw [e6] at g6
     have G6 := hid g6
     clear g6 hv
     simp only [putAll, Act.put, List.setIfInBounds_toArray, List.set_cons_zero, List.set_cons_succ, e6, g7]
     go_wp2_with fail
     refine bodyPost_ret (v := .tuple #[.slice p6 1 c6, .bool false]) (by simp [results, Tryz.results24, go_sem]) rfl ?_
     refine RetPre.mk HP.out (fun e => ?_) G6.out ((k1.trans kd).trans hk)
     cases e
   ·go_upto_region 8 with fail
    have kd := k2.trans (Keeps.refl w2).drew
    have c0 := (HB1.out.keeps kd).cell 0 (by simp)
    have c1 := (HB1.out.keeps kd).cell 1 (by simp)
    simp only [List.getElem_cons_zero, List.getElem_cons_succ] at c0 c1
    have h0 := HA.out.keeps kd
    have h1 := HC.out.keeps kd
    refine wp_region_kinds (L := 14) (nt := 125) (ins := [6, 10, 14, 16]) (ds := [66, 67, 68, 69, 70, 71, 72, 73, 74, 75, 76, 77, 8, 9]) (by kernel_rfl) (by kernel_rfl) (fun s v w' => ((fun s => if s = 6 then .val (.pointer (some ⟨w.heap.size, 0, none⟩)) else if s = 8 then .sqs [(ss, insS (tt) x)] else if s = 9 then .val (.bool rf) else if s = 10 then .val (.bool rf) else if s = 14 then .val (.string x) else if s = 16 then .val (.bool true) else if s = 66 then .val (.pointer (some ⟨w.heap.size, 0, none⟩)) else if s = 67 then .strs (ss) else if s = 68 then .val (.pointer (some ⟨w.heap.size, 1, none⟩)) else if s = 69 then .strs (tt) else if s = 70 then .val (.string x) else if s = 71 then .strs (insS (tt) x) else if s = 72 then .sds [ss, insS (tt) x] else if s = 73 then .sqs [(ss, insS (tt) x)] else if s = 74 then .val (.bool true) else if s = 75 then .val (.bool true) else if s = 76 then .val (.bool rf) else if s = 77 then .val (.bool rf) else .any : Nat → Kq) s).holds v w') (fun _ _ _ _ h hv => Kq.keeps h hv) ?_ (by kernel_rfl) rfl ?_ ?_
    ·refine lK (kPure1 6 (.pointer (some ⟨w.heap.size, 0, none⟩)) (.pointer (some ⟨w.heap.size, 0, none⟩)) rfl (by kernel_rfl) rfl (fun a w1 h1 => by unfold execOp; simp only [h1, Sem.run_bind, run_fieldQ0 w.heap.size]; rfl) (fun d hd => by cases hd; rfl)) ?_
     refine lK (kLoadS 66 _ _ _ rfl rfl (by kernel_rfl) rfl c0 h0 (fun d hd => by cases hd; rfl)) ?_
     refine lK (kPure1 6 (.pointer (some ⟨w.heap.size, 0, none⟩)) (.pointer (some ⟨w.heap.size, 1, none⟩)) rfl (by kernel_rfl) rfl (fun a w1 h1 => by unfold execOp; simp only [h1, Sem.run_bind, run_fieldQ1 w.heap.size]; rfl) (fun d hd => by cases hd; rfl)) ?_
     refine lK (kLoadS 68 _ _ _ rfl rfl (by kernel_rfl) rfl c1 h1 (fun d hd => by cases hd; rfl)) ?_
     refine lK (kMove 14 (.inl rfl) rfl (by kernel_rfl) (fun d hd => by cases hd; rfl)) ?_
     refine lK (kIns 69 70 (tt) x rfl rfl (by kernel_rfl) (by kernel_rfl) rfl rfl (by omega) (fun d hd => by cases hd; rfl)) ?_
     refine lK (kSides2 67 71 (ss) (insS (tt) x) rfl rfl (by kernel_rfl) (by kernel_rfl) rfl rfl (fun d hd => by cases hd; rfl)) ?_
     refine lK (kSeqs 72 [(ss, insS (tt) x)] rfl rfl (by kernel_rfl) rfl (by simp) (fun p hp => by obtain rfl := List.mem_singleton.1 hp; have := (insS_len (tt) x).1; exact ⟨by show (ss).length ≤ 1000000; omega, by show (insS (tt) x).length ≤ 1000000; omega⟩) (fun d hd => by cases hd; rfl)) ?_
     refine lK (kMove 16 (.inl rfl) rfl (by kernel_rfl) (fun d hd => by cases hd; rfl)) ?_
     refine lK (kMove 74 (.inl rfl) rfl (by kernel_rfl) (fun d hd => by cases hd; rfl)) ?_
     refine lK (kOn1 9 75 true 10 (.bool rf) (.bool rf) rfl rfl (by decide) (by kernel_rfl) rfl (by kernel_rfl) rfl (fun a w1 h1 => by unfold execOp; simp only [h1, Sem.run_pure]) (fun d hd => by cases hd; rfl)) ?_
     refine lK (kPickT 75 76 _ (.bool rf) rfl rfl (by kernel_rfl) (by kernel_rfl) rfl rfl (fun d hd => by cases hd; rfl)) ?_
     refine lK (kMove 73 (.inr rfl) rfl (by kernel_rfl) (fun d hd => by cases hd; rfl)) ?_
     refine lK (kMove 77 (.inr rfl) rfl (by kernel_rfl) (fun d hd => by cases hd; rfl)) True.intro
    ·intro s hs
     have : s = 6 ∨ s = 10 ∨ s = 14 ∨ s = 16 := by simpa using hs
     rcases this with rfl | rfl | rfl | rfl <;> rfl
    ·intro f w' hk hv
     have g6 : SqL w' (f 8) [(ss, insS (tt) x)] := hv 8 (by decide)
     have g7 : f 9 = .bool rf := hv 9 (by decide)
     obtain ⟨p6, c6, e6, _⟩ := g6.shape
     rw [e6] at g6
     have G6 := hid g6
     clear g6 hv
     simp only [putAll, Act.put, List.setIfInBounds_toArray, List.set_cons_zero, List.set_cons_succ, e6, g7]
     go_wp2_with fail
     refine bodyPost_ret (v := .tuple #[.slice p6 1 c6, .bool rf]) (by simp [results, Tryz.results24, go_sem]) rfl ?_
     refine RetPre.mk HP.out (fun e => ?_) G6.out ((k1.trans kd).trans hk)
     obtain rfl := (HAB.out trivial).1 (by decide); rfl
  by_cases e11 : r = 11
  ·subst e11
   have HON1 := hid (fun wz (kz : Keeps wc wz) => l11On_any tt HT.out.1 _ main 5 (by omega) wz (HC.out.keeps kz).1)
   have HON2 := hid (fun wz (kz : Keeps wc wz) => l11On_any ss HS.out.1 _ main 6 (by omega) wz (HA.out.keeps kz).1)
   have HP : Hid (preR (lgN lg) (11 : Int).toNat ss tt main = if onS tt main isBx = true then some [moBx (lgN lg) ss tt main] else if onS ss main isDi = true then some [moDi (lgN lg) ss tt main] else none) := hid rfl
   have HM1 := hid (fun h => md_bx (L := lgN lg) (ss := ss) (main := main) HT.out h)
   have HM2 := hid (fun h => md_di (L := lgN lg) (tt := tt) (main := main) HS.out h)
   have HMO := hid (fun wz (kz : Keeps wc wz) (hm : main = ⟨#[]⟩ ∨ ∃ t, IsTx main t ∧ (t.kind = 5 ∨ t.kind = 6)) => l11Modal_any lg main ss tt HS.out HT.out _ _ wz (HA.out.keeps kz) (HC.out.keeps kz) ⟨l1, l2⟩ hm)
   go_wp2_with fail
   refine (HON1.out _ (Keeps.refl wc)).mono ?_; rintro e w2 ⟨x1, y1, rfl, -, k2⟩
   rw [isKd_bx]
   clear HON1 z0 z1
   have z0 := (HB1.out.keeps k2).cell 0 (by simp)
   simp only [List.getElem_cons_zero] at z0
   go_wp2_with fail
   refine (HON2.out _ k2).mono ?_; rintro e w3 ⟨x2, y2, rfl, -, k3⟩
   rw [isKd_di]
   clear HON2 z0
   have k23 := k2.trans k3
   have z0 := (HB1.out.keeps k23).cell 0 (by simp)
   have z1 := (HB1.out.keeps k23).cell 1 (by simp)
   simp only [List.getElem_cons_zero, List.getElem_cons_succ] at z0 z1
   generalize onS tt main isBx = o1 at *
   generalize onS ss main isDi = o2 at *
   cases o1
   ·cases o2
    ·go_wp2_with fail
     refine bodyPost_ret (v := .tuple #[.slice none 0 0, .bool false]) (by simp [results, Tryz.results24, go_sem]) rfl ?_
     exact RetPre.mk (ps := []) (ps' := []) HP.out (fun e => rfl) (SqL.none0 _ _) (k1.trans k23)
    ·obtain ⟨e5, hm⟩ := HM2.out rfl
     have HMO2 := hid (HMO.out _ k23 hm)
     have HE := hid e5
     clear e5 hm
     go_wp2_with fail
     refine HMO2.out.mono ?_; rintro e w4 ⟨x4, y4, rfl, hx4, hy4, k4⟩
     obtain ⟨px, nx, cx, rfl⟩ := hx4.sh
     obtain ⟨py, ny, cy, rfl⟩ := hy4.sh
     have HQ := hid (SqL.lit w4 [(.slice px nx cx, .slice py ny cy)] [mdQ (lgN lg) ss tt main] rfl (by simp) (fun i h1 h2 => by
      obtain rfl : i = 0 := by simp at h1; omega
      exact ⟨hx4, hy4⟩))
     have KQ := hid (k4.alloc (.cells #[.slice px nx cx, .slice py ny cy] 26))
     clear hx4 hy4
     go_wp2_with fail
     refine bodyPost_ret (v := .tuple #[.slice (some ⟨w4.heap.size, 0, none⟩) 1 1, .bool true]) (by simp [results, Tryz.results24, go_sem]) rfl ?_
     exact RetPre.mk HP.out (fun e => by rw [HE.out]) HQ.out ((k1.trans k23).trans KQ.out)
   ·obtain ⟨e5, hm⟩ := HM1.out rfl
    have HMO2 := hid (HMO.out _ k23 hm)
    have HE := hid e5
    clear e5 hm
    go_wp2_with fail
    refine HMO2.out.mono ?_; rintro e w4 ⟨x4, y4, rfl, hx4, hy4, k4⟩
    obtain ⟨px, nx, cx, rfl⟩ := hx4.sh
    obtain ⟨py, ny, cy, rfl⟩ := hy4.sh
    have HQ := hid (SqL.lit w4 [(.slice px nx cx, .slice py ny cy)] [mdQ (lgN lg) ss tt main] rfl (by simp) (fun i h1 h2 => by
     obtain rfl : i = 0 := by simp at h1; omega
     exact ⟨hx4, hy4⟩))
    have KQ := hid (k4.alloc (.cells #[.slice px nx cx, .slice py ny cy] 26))
    clear hx4 hy4
    go_wp2_with fail
    refine bodyPost_ret (v := .tuple #[.slice (some ⟨w4.heap.size, 0, none⟩) 1 1, .bool true]) (by simp [results, Tryz.results24, go_sem]) rfl ?_
    exact RetPre.mk HP.out (fun e => by rw [HE.out]) HQ.out ((k1.trans k23).trans KQ.out)
  by_cases e12 : r = 12
  ·subst e12
   have HP : Hid (preR (lgN lg) (12 : Int).toNat ss tt main = if (decide (main = ⟨#[]⟩) && decide (lgN lg = 1)) = true then some [(mopL (lgN lg) ss main, mopR (lgN lg) tt main)] else none) := hid rfl
   by_cases hm0 : main = ⟨#[]⟩
   ·subst hm0
    rw [decide_eq_true rfl] at HP
    have HMO := hid (fun wz (kz : Keeps wc wz) => l11Modal_any lg ⟨#[]⟩ ss tt HS.out HT.out _ _ wz (HA.out.keeps kz) (HC.out.keeps kz) ⟨l1, l2⟩ (.inl rfl))
    have HE : Hid (mdQ (lgN lg) ss tt ⟨#[]⟩ = (mopL (lgN lg) ss ⟨#[]⟩, mopR (lgN lg) tt ⟨#[]⟩)) := hid (by unfold mdQ; rw [if_pos rfl])
    have e1 := nmD lg
    by_cases hd : lgN lg = 1
    ·rw [decide_eq_true hd] at e1 HP
     clear hd
     have HMO2 := hid (HMO.out _ (Keeps.refl wc))
     go_wp2_with fail
     refine HMO2.out.mono ?_; rintro e w4 ⟨x4, y4, rfl, hx4, hy4, k4⟩
     obtain ⟨px, nx, cx, rfl⟩ := hx4.sh
     obtain ⟨py, ny, cy, rfl⟩ := hy4.sh
     have HQ := hid (SqL.lit w4 [(.slice px nx cx, .slice py ny cy)] [mdQ (lgN lg) ss tt ⟨#[]⟩] rfl (by simp) (fun i h1 h2 => by
      obtain rfl : i = 0 := by simp at h1; omega
      exact ⟨hx4, hy4⟩))
     have KQ := hid (k4.alloc (.cells #[.slice px nx cx, .slice py ny cy] 26))
     clear hx4 hy4
     go_wp2_with fail
     refine bodyPost_ret (v := .tuple #[.slice (some ⟨w4.heap.size, 0, none⟩) 1 1, .bool true]) (by simp [results, Tryz.results24, go_sem]) rfl ?_
     exact RetPre.mk HP.out (fun e => by rw [HE.out]) HQ.out (k1.trans KQ.out)
    ·rw [decide_eq_false hd] at e1 HP
     clear hd
     go_wp2_with fail
     refine bodyPost_ret (v := .tuple #[.slice none 0 0, .bool false]) (by simp [results, Tryz.results24, go_sem]) rfl ?_
     exact RetPre.mk (ps := []) HP.out (fun e => by cases e) (SqL.none0 _ _) k1
   ·have hm2 := toL_ne hm0
    rw [decide_eq_false hm0] at HP
    clear hm0
    go_wp2_with fail
    refine bodyPost_ret (v := .tuple #[.slice none 0 0, .bool false]) (by simp [results, Tryz.results24, go_sem]) rfl ?_
    exact RetPre.mk (ps := []) HP.out (fun e => by cases e) (SqL.none0 _ _) k1
  have HLO := hid (l11Local_any (lgN lg) r main ss tt HS.out HT.out _ _ wc HA.out HC.out ⟨l1, l2⟩ ⟨e9, e10, e11, e12⟩ hms)
  have q9 : (r == 9) = false := by simpa using e9
  have q10 : (r == 10) = false := by simpa using e10
  have q11 : (r == 11) = false := by simpa using e11
  have q12 : (r == 12) = false := by simpa using e12
  clear e9 e10 e11 e12
  go_wp2_with fail
  refine HLO.out.mono ?_; rintro e w2 ⟨v, b, rfl, ⟨p2, n2, c2, rfl⟩, hb0, hb1, k2⟩
  have HB0 := hid hb0
  have HB2 := hid hb1
  clear hb0 hb1
  go_wp2_with fail
  refine bodyPost_ret (v := .tuple #[.slice p2 n2 c2, .bool b]) (by simp [results, Tryz.results24, go_sem]) rfl ?_
  exact ⟨_, b, rfl, ⟨_, _, _, rfl⟩, HB0.out, HB2.out, k1.trans k2⟩
end Go.Proofs.YtkkcfifnkcnceaaGreat
namespace Go.Proofs.YtkkcfifnkcnceaaGreat
open Go.RowKit
end Go.Proofs.YtkkcfifnkcnceaaGreat
