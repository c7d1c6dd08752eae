import Derived.Test.YtkkcfifnkcnceaaGreatHEO
/- The reference's premises of the rules without modalities. -/
namespace Go.Proofs.YtkkcfifnkcnceaaGreat
open Go.RowKit
def RetPre (w : World) (o : Option (List SqT)) (e : Ending) (w' : World) : Prop :=
 ∃ v b, e = .returned (.tuple #[v, .bool b]) ∧ (∃ p n c, v = .slice p n c) ∧ (b = false → o = none) ∧ (b = true → ∃ ps, o = some ps ∧ SqL w' v ps) ∧ Keeps w w'
theorem RetPre.mk {w w' : World} {o : Option (List SqT)} {p : Option Addr} {n c : Nat} {b : Bool} {ps ps' : List SqT} (ho : o = if b = true then some ps' else none) (hp : b = true → ps' = ps) (h : SqL w' (.slice p n c) ps) (k : Keeps w w') : RetPre w o (.returned (.tuple #[.slice p n c, .bool b])) w' :=
 ⟨_, b, rfl, ⟨_, _, _, rfl⟩, fun e => by rw [ho, e]; rfl, fun e => ⟨ps', by rw [ho, e]; rfl, by rw [hp e]; exact h⟩, k⟩
section
variable {md : Region.Mode} {ops : Array Oper} {Q : Exit → Act → World → Prop} {nt : Nat} {ins : List Nat} {kd : Nat → Kq} {w0 : World} {o : Oper}
theorem enters_wo : Enters 110 := fun _ _ => by kernel_rfl
theorem kWo (s s' : Nat) (x : List ByteArray) (y : ByteArray) (ho : o.op = .call { callee := .value (.func 110), args := #[.tmp s, .tmp s'], argTypes := #[24, 9] }) (hg : o.guard = none) (h : availK md ops ins o s = true) (h' : availK md ops ins o s' = true) (hs : kd s = .strs x) (hs' : kd s' = .val (.string y)) (hl : x.length ≤ 1000000) (hk : ∀ d, o.dst = some d → kd d = .strs (remS x y)) : StQ md ops Q nt ins kd w0 o :=
 kCall 110 _ _ ho enters_wo hg (fun a w1 _ hv => by
  have g1 := hv s h
  have g2 := hv s' h'
  rw [hs] at g1
  rw [hs'] at g2
  have g1 : StrsP w1 (a.eval (.tmp s)) x := g1
  have g2 : a.eval (.tmp s') = .string y := g2
  rw [map2, g2]
  refine (l11Without_any x _ y w1 g1.1 hl).mono ?_
  rintro e w2 ⟨b3, n3, c3, rfl, h3, k3⟩
  have := remS_len x y
  exact ⟨_, rfl, k3, fun d hd => by rw [hk d hd]; exact h3.strsP (by omega)⟩)
end
set_option maxRecDepth 20000 in
set_option maxHeartbeats 8000000 in
theorem l11Local_any (L : Nat) (r : Int) (main : ByteArray) (ss tt : List ByteArray) (hs : Side ss) (ht : Side tt) (a b : Value) (w : World) (ha : StrsP w a ss) (hb : StrsP w b tt) (hl : ss.length ≤ 1000 ∧ tt.length ≤ 1000) (hr : r ≠ 9 ∧ r ≠ 10 ∧ r ≠ 11 ∧ r ≠ 12) (hms : main.size ≤ 10000000) :
  Calls Tryz.prog 60 #[.int .i64 r, .agg #[a, b], .string main] w (RetPre w (preR L r.toNat ss tt main)) := by
 obtain ⟨p, n, c, rfl⟩ := ha.sh
 obtain ⟨q, m, d, rfl⟩ := hb.sh
 have k1 := (Keeps.refl w).alloc (.cells #[.slice p n c, .slice q m d] 26)
 have b1 := BoxG.made w 26 [.slice p n c, .slice q m d] (by simp) (by simp)
 have HB1 := hid b1
 have HA := hid (ha.keeps k1)
 have HC := hid (hb.keeps k1)
 have HS := hid hs
 have HT := hid ht
 have HR := hid hr
 obtain ⟨l1, l2⟩ := hl
 clear ha hb b1 hs ht hr
 have l3 := remS_len ss main
 have l4 := remS_len tt main
 go_enter Tryz.func60, Tryz.ntmps60
 go_upto_region 1 with fail
 generalize w.alloc (.cells #[.slice p n c, .slice q m d] 26) = w1 at *
 go_cut [8, 9] from 30 to 37 (fun v8 v9 wx => StrsP wx v8 (remS ss main) ∧ StrsP wx v9 (remS tt main) ∧ Keeps w1 wx)
 case first =>
  have kd := (Keeps.refl w1).drew
  have c0 := (HB1.out.keeps kd).cell 0 (by simp)
  have c1 := (HB1.out.keeps kd).cell 1 (by simp)
  simp only [List.getElem_cons_zero, List.getElem_cons_succ] at c0 c1
  have h0 := HA.out.keeps kd
  have h1 := HC.out.keeps kd
  refine wp_region_kinds (L := 10) (nt := 215) (ins := [2, 4]) (ds := [30, 31, 32, 33, 34, 35, 36, 37, 8, 9]) (by kernel_rfl) (by kernel_rfl) (fun s v w' => ((fun s => if s = 2 ∨ s = 32 ∨ s = 36 then .val (.string main) else if s = 4 ∨ s = 30 then .val (.pointer (some ⟨w.heap.size, 0, none⟩)) else if s = 34 then .val (.pointer (some ⟨w.heap.size, 1, none⟩)) else if s = 31 then .strs ss else if s = 35 then .strs tt else if s = 33 ∨ s = 8 then .strs (remS ss main) else if s = 37 ∨ s = 9 then .strs (remS tt main) else .any : Nat → Kq) s).holds v w') (fun _ _ _ _ h hv => Kq.keeps h hv) ?_ (by kernel_rfl) rfl ?_ ?_
  ·refine lK (kPure1 4 (.pointer (some ⟨w.heap.size, 0, none⟩)) (.pointer (some ⟨w.heap.size, 0, none⟩)) rfl (by kernel_rfl) rfl (fun a w1 h1 => by unfold execOp; simp only [h1, Sem.run_bind, run_fieldQ0 w.heap.size]; rfl) (fun d hd => by cases hd; rfl)) ?_
   refine lK (kLoadS 30 _ _ _ rfl rfl (by kernel_rfl) rfl c0 h0 (fun d hd => by cases hd; rfl)) ?_
   refine lK (kMove 2 (.inl rfl) rfl (by kernel_rfl) (fun d hd => by cases hd; rfl)) ?_
   refine lK (kWo 31 32 ss main rfl rfl (by kernel_rfl) (by kernel_rfl) rfl rfl (by omega) (fun d hd => by cases hd; rfl)) ?_
   refine lK (kPure1 4 (.pointer (some ⟨w.heap.size, 0, none⟩)) (.pointer (some ⟨w.heap.size, 1, none⟩)) rfl (by kernel_rfl) rfl (fun a w1 h1 => by unfold execOp; simp only [h1, Sem.run_bind, run_fieldQ1 w.heap.size]; rfl) (fun d hd => by cases hd; rfl)) ?_
   refine lK (kLoadS 34 _ _ _ rfl rfl (by kernel_rfl) rfl c1 h1 (fun d hd => by cases hd; rfl)) ?_
   refine lK (kMove 2 (.inl rfl) rfl (by kernel_rfl) (fun d hd => by cases hd; rfl)) ?_
   refine lK (kWo 35 36 tt main rfl rfl (by kernel_rfl) (by kernel_rfl) rfl rfl (by omega) (fun d hd => by cases hd; rfl)) ?_
   refine lK (kMove 33 (.inr rfl) rfl (by kernel_rfl) (fun d hd => by cases hd; rfl)) ?_
   refine lK (kMove 37 (.inr rfl) rfl (by kernel_rfl) (fun d hd => by cases hd; rfl)) True.intro
  ·intro s hs
   have : s = 2 ∨ s = 4 := by simpa using hs
   rcases this with rfl | rfl <;> rfl
  ·intro f w' hk hv
   have g8 : StrsP w' (f 8) (remS ss main) := hv 8 (by decide)
   have g9 : StrsP w' (f 9) (remS tt main) := hv 9 (by decide)
   have G8 := hid g8
   have G9 := hid g9
   clear g8 g9 hv
   simp only [putAll, Act.put, List.setIfInBounds_toArray, List.set_cons_zero, List.set_cons_succ]
   go_wp2_with fail
   go_meet
   exact ⟨G8.out, G9.out, kd.trans hk⟩
 case rest =>
  obtain ⟨g8, g9, kc⟩ := hcut
  have HXL := hid g8
  have HXR := hid g9
  clear g8 g9
  by_cases e3 : r = 3
  ·subst e3
   have HON := hid (fun wz (kz : Keeps w1 wz) => l11On_any ss HS.out.1 _ main 2 (by omega) wz (HA.out.keeps kz).1)
   have z0 := (HB1.out.keeps kc).cell 0 (by simp)
   have z1 := (HB1.out.keeps kc).cell 1 (by simp)
   simp only [List.getElem_cons_zero, List.getElem_cons_succ] at z0 z1
   go_wp2_with fail
   refine (HON.out _ kc).mono ?_; rintro e w2 ⟨x, y, rfl, hab, k2⟩
   have HAB := hid hab
   clear hab HON z0 z1
   rw [isKd_an] at HAB
   have HP : Hid (preR L (3 : Int).toNat ss tt main = if onS ss main isAn = true then some [(insS (insS (remS ss main) (pa1 main)) (pa2 main), tt)] else none) := hid rfl
   rw [isKd_an]
   generalize onS ss main isAn = ok at *
   go_upto_region 9 with fail
   have kd := (kc.trans k2).trans (Keeps.refl w2).drew
   have c0 := (HB1.out.keeps kd).cell 0 (by simp)
   have c1 := (HB1.out.keeps kd).cell 1 (by simp)
   simp only [List.getElem_cons_zero, List.getElem_cons_succ] at c0 c1
   have h0 := HA.out.keeps kd
   have h1 := HC.out.keeps kd
   have i8 := (HXL.out.keeps k2).keeps (Keeps.refl w2).drew
   have i9 := (HXR.out.keeps k2).keeps (Keeps.refl w2).drew
   refine wp_region_kinds (L := 12) (nt := 215) (ins := [4, 8, 9, 10, 11, 12]) (ds := [72, 73, 74, 75, 76, 77, 78, 79, 80, 81, 6, 7]) (by kernel_rfl) (by kernel_rfl) (fun s v w' => ((fun s => if s = 4 then .val (.pointer (some ⟨w.heap.size, 0, none⟩)) else if s = 6 then .sqs [(insS (insS (remS ss main) x) y, tt)] else if s = 7 then .val (.bool ok) else if s = 8 then .strs (remS ss main) else if s = 9 then .strs (remS tt main) else if s = 10 then .val (.string x) else if s = 11 then .val (.string y) else if s = 12 then .val (.bool ok) else if s = 72 then .strs (remS ss main) else if s = 73 then .val (.string x) else if s = 74 then .strs (insS (remS ss main) x) else if s = 75 then .val (.string y) else if s = 76 then .strs (insS (insS (remS ss main) x) y) else if s = 77 then .val (.pointer (some ⟨w.heap.size, 1, none⟩)) else if s = 78 then .strs (tt) else if s = 79 then .sds [insS (insS (remS ss main) x) y, tt] else if s = 80 then .sqs [(insS (insS (remS ss main) x) y, tt)] else if s = 81 then .val (.bool ok) else .any : Nat → Kq) s).holds v w') (fun _ _ _ _ h hv => Kq.keeps h hv) ?_ (by kernel_rfl) rfl ?_ ?_
   ·refine lK (kMove 8 (.inl rfl) rfl (by kernel_rfl) (fun d hd => by cases hd; rfl)) ?_
    refine lK (kMove 10 (.inl rfl) rfl (by kernel_rfl) (fun d hd => by cases hd; rfl)) ?_
    refine lK (kIns 72 73 (remS ss main) x rfl rfl (by kernel_rfl) (by kernel_rfl) rfl rfl (by omega) (fun d hd => by cases hd; rfl)) ?_
    refine lK (kMove 11 (.inl rfl) rfl (by kernel_rfl) (fun d hd => by cases hd; rfl)) ?_
    refine lK (kIns 74 75 (insS (remS ss main) x) y rfl rfl (by kernel_rfl) (by kernel_rfl) rfl rfl (by have := (insS_len (remS ss main) x).1; omega) (fun d hd => by cases hd; rfl)) ?_
    refine lK (kPure1 4 (.pointer (some ⟨w.heap.size, 0, none⟩)) (.pointer (some ⟨w.heap.size, 1, none⟩)) rfl (by kernel_rfl) rfl (fun a w1 h1 => by unfold execOp; simp only [h1, Sem.run_bind, run_fieldQ1 w.heap.size]; rfl) (fun d hd => by cases hd; rfl)) ?_
    refine lK (kLoadS 77 _ _ _ rfl rfl (by kernel_rfl) rfl c1 h1 (fun d hd => by cases hd; rfl)) ?_
    refine lK (kSides2 76 78 (insS (insS (remS ss main) x) y) (tt) rfl rfl (by kernel_rfl) (by kernel_rfl) rfl rfl (fun d hd => by cases hd; rfl)) ?_
    refine lK (kSeqs 79 [(insS (insS (remS ss main) x) y, tt)] rfl rfl (by kernel_rfl) rfl (by simp) (fun p hp => by obtain rfl := List.mem_singleton.1 hp; have := (insS_len (remS ss main) x).1; have := (insS_len (insS (remS ss main) x) y).1; exact ⟨by show (insS (insS (remS ss main) x) y).length ≤ 1000000; omega, by show (tt).length ≤ 1000000; omega⟩) (fun d hd => by cases hd; rfl)) ?_
    refine lK (kMove 12 (.inl rfl) rfl (by kernel_rfl) (fun d hd => by cases hd; rfl)) ?_
    refine lK (kMove 80 (.inr rfl) rfl (by kernel_rfl) (fun d hd => by cases hd; rfl)) ?_
    refine lK (kMove 81 (.inr rfl) rfl (by kernel_rfl) (fun d hd => by cases hd; rfl)) True.intro
   ·intro s hs
    have : s = 4 ∨ s = 8 ∨ s = 9 ∨ s = 10 ∨ s = 11 ∨ s = 12 := by simpa using hs
    rcases this with rfl | rfl | rfl | rfl | rfl | rfl
    ·exact rfl
    ·exact i8
    ·exact i9
    ·exact rfl
    ·exact rfl
    ·exact rfl
   ·intro f w' hk hv
    have g6 : SqL w' (f 6) [(insS (insS (remS ss main) x) y, tt)] := hv 6 (by decide)
    have g7 : f 7 = .bool ok := hv 7 (by decide)
    obtain ⟨p6, c6, e6, _⟩ := g6.shape
    rw [e6] at g6
    have G6 := hid g6
    clear g6 hv
    simp only [putAll, Act.put, List.setIfInBounds_toArray, List.set_cons_zero, List.set_cons_succ, e6, g7]
    go_wp2_with fail
    refine bodyPost_ret (v := .tuple #[.slice p6 1 c6, .bool ok]) (by simp [results, Tryz.results60, go_sem]) rfl ?_
    refine RetPre.mk HP.out (fun e => ?_) G6.out ((k1.trans kd).trans hk)
    obtain ⟨_, hxy⟩ := HAB.out e
    obtain ⟨rfl, rfl⟩ := hxy (by decide)
    rfl
  by_cases e4 : r = 4
  ·subst e4
   have HON := hid (fun wz (kz : Keeps w1 wz) => l11On_any tt HT.out.1 _ main 2 (by omega) wz (HC.out.keeps kz).1)
   have z0 := (HB1.out.keeps kc).cell 0 (by simp)
   have z1 := (HB1.out.keeps kc).cell 1 (by simp)
   simp only [List.getElem_cons_zero, List.getElem_cons_succ] at z0 z1
   go_wp2_with fail
   refine (HON.out _ kc).mono ?_; rintro e w2 ⟨x, y, rfl, hab, k2⟩
   have HAB := hid hab
   clear hab HON z0 z1
   rw [isKd_an] at HAB
   have HP : Hid (preR L (4 : Int).toNat ss tt main = if onS tt main isAn = true then some [(ss, insS (remS tt main) (pa1 main)), (ss, insS (remS tt main) (pa2 main))] else none) := hid rfl
   rw [isKd_an]
   generalize onS tt main isAn = ok at *
   go_upto_region 12 with fail
   have kd := (kc.trans k2).trans (Keeps.refl w2).drew
   have c0 := (HB1.out.keeps kd).cell 0 (by simp)
   have c1 := (HB1.out.keeps kd).cell 1 (by simp)
   simp only [List.getElem_cons_zero, List.getElem_cons_succ] at c0 c1
   have h0 := HA.out.keeps kd
   have h1 := HC.out.keeps kd
   have i8 := (HXL.out.keeps k2).keeps (Keeps.refl w2).drew
   have i9 := (HXR.out.keeps k2).keeps (Keeps.refl w2).drew
   refine wp_region_kinds (L := 15) (nt := 215) (ins := [4, 8, 9, 13, 14, 15]) (ds := [92, 93, 94, 95, 96, 97, 98, 99, 100, 101, 102, 103, 104, 6, 7]) (by kernel_rfl) (by kernel_rfl) (fun s v w' => ((fun s => if s = 4 then .val (.pointer (some ⟨w.heap.size, 0, none⟩)) else if s = 6 then .sqs [(ss, insS (remS tt main) x), (ss, insS (remS tt main) y)] else if s = 7 then .val (.bool ok) else if s = 8 then .strs (remS ss main) else if s = 9 then .strs (remS tt main) else if s = 13 then .val (.string x) else if s = 14 then .val (.string y) else if s = 15 then .val (.bool ok) else if s = 92 then .val (.pointer (some ⟨w.heap.size, 0, none⟩)) else if s = 93 then .strs (ss) else if s = 94 then .strs (remS tt main) else if s = 95 then .val (.string x) else if s = 96 then .strs (insS (remS tt main) x) else if s = 97 then .val (.pointer (some ⟨w.heap.size, 0, none⟩)) else if s = 98 then .strs (ss) else if s = 99 then .strs (remS tt main) else if s = 100 then .val (.string y) else if s = 101 then .strs (insS (remS tt main) y) else if s = 102 then .sds [ss, insS (remS tt main) x, ss, insS (remS tt main) y] else if s = 103 then .sqs [(ss, insS (remS tt main) x), (ss, insS (remS tt main) y)] else if s = 104 then .val (.bool ok) else .any : Nat → Kq) s).holds v w') (fun _ _ _ _ h hv => Kq.keeps h hv) ?_ (by kernel_rfl) rfl ?_ ?_
   ·refine lK (kPure1 4 (.pointer (some ⟨w.heap.size, 0, none⟩)) (.pointer (some ⟨w.heap.size, 0, none⟩)) rfl (by kernel_rfl) rfl (fun a w1 h1 => by unfold execOp; simp only [h1, Sem.run_bind, run_fieldQ0 w.heap.size]; rfl) (fun d hd => by cases hd; rfl)) ?_
    refine lK (kLoadS 92 _ _ _ rfl rfl (by kernel_rfl) rfl c0 h0 (fun d hd => by cases hd; rfl)) ?_
    refine lK (kMove 9 (.inl rfl) rfl (by kernel_rfl) (fun d hd => by cases hd; rfl)) ?_
    refine lK (kMove 13 (.inl rfl) rfl (by kernel_rfl) (fun d hd => by cases hd; rfl)) ?_
    refine lK (kIns 94 95 (remS tt main) x rfl rfl (by kernel_rfl) (by kernel_rfl) rfl rfl (by omega) (fun d hd => by cases hd; rfl)) ?_
    refine lK (kPure1 4 (.pointer (some ⟨w.heap.size, 0, none⟩)) (.pointer (some ⟨w.heap.size, 0, none⟩)) rfl (by kernel_rfl) rfl (fun a w1 h1 => by unfold execOp; simp only [h1, Sem.run_bind, run_fieldQ0 w.heap.size]; rfl) (fun d hd => by cases hd; rfl)) ?_
    refine lK (kLoadS 97 _ _ _ rfl rfl (by kernel_rfl) rfl c0 h0 (fun d hd => by cases hd; rfl)) ?_
    refine lK (kMove 9 (.inl rfl) rfl (by kernel_rfl) (fun d hd => by cases hd; rfl)) ?_
    refine lK (kMove 14 (.inl rfl) rfl (by kernel_rfl) (fun d hd => by cases hd; rfl)) ?_
    refine lK (kIns 99 100 (remS tt main) y rfl rfl (by kernel_rfl) (by kernel_rfl) rfl rfl (by omega) (fun d hd => by cases hd; rfl)) ?_
    refine lK (kSides4 93 96 98 101 (ss) (insS (remS tt main) x) (ss) (insS (remS tt main) y) rfl rfl (by kernel_rfl) (by kernel_rfl) (by kernel_rfl) (by kernel_rfl) rfl rfl rfl rfl (fun d hd => by cases hd; rfl)) ?_
    refine lK (kSeqs 102 [(ss, insS (remS tt main) x), (ss, insS (remS tt main) y)] rfl rfl (by kernel_rfl) rfl (by simp) (fun p hp => by rcases List.mem_cons.1 hp with rfl | hp2; (have := (insS_len (remS tt main) x).1; exact ⟨by show (ss).length ≤ 1000000; omega, by show (insS (remS tt main) x).length ≤ 1000000; omega⟩); (obtain rfl := List.mem_singleton.1 hp2; have := (insS_len (remS tt main) y).1; exact ⟨by show (ss).length ≤ 1000000; omega, by show (insS (remS tt main) y).length ≤ 1000000; omega⟩)) (fun d hd => by cases hd; rfl)) ?_
    refine lK (kMove 15 (.inl rfl) rfl (by kernel_rfl) (fun d hd => by cases hd; rfl)) ?_
    refine lK (kMove 103 (.inr rfl) rfl (by kernel_rfl) (fun d hd => by cases hd; rfl)) ?_
    refine lK (kMove 104 (.inr rfl) rfl (by kernel_rfl) (fun d hd => by cases hd; rfl)) True.intro
   ·intro s hs
    have : s = 4 ∨ s = 8 ∨ s = 9 ∨ s = 13 ∨ s = 14 ∨ s = 15 := by simpa using hs
    rcases this with rfl | rfl | rfl | rfl | rfl | rfl
    ·exact rfl
    ·exact i8
    ·exact i9
    ·exact rfl
    ·exact rfl
    ·exact rfl
   ·intro f w' hk hv
    have g6 : SqL w' (f 6) [(ss, insS (remS tt main) x), (ss, insS (remS tt main) y)] := hv 6 (by decide)
    have g7 : f 7 = .bool ok := hv 7 (by decide)
    obtain ⟨p6, c6, e6, _⟩ := g6.shape
    rw [e6] at g6
    have G6 := hid g6
    clear g6 hv
    simp only [putAll, Act.put, List.setIfInBounds_toArray, List.set_cons_zero, List.set_cons_succ, e6, g7]
    go_wp2_with fail
    refine bodyPost_ret (v := .tuple #[.slice p6 2 c6, .bool ok]) (by simp [results, Tryz.results60, go_sem]) rfl ?_
    refine RetPre.mk HP.out (fun e => ?_) G6.out ((k1.trans kd).trans hk)
    obtain ⟨_, hxy⟩ := HAB.out e
    obtain ⟨rfl, rfl⟩ := hxy (by decide)
    rfl
  by_cases e5 : r = 5
  ·subst e5
   have HON := hid (fun wz (kz : Keeps w1 wz) => l11On_any ss HS.out.1 _ main 3 (by omega) wz (HA.out.keeps kz).1)
   have z0 := (HB1.out.keeps kc).cell 0 (by simp)
   have z1 := (HB1.out.keeps kc).cell 1 (by simp)
   simp only [List.getElem_cons_zero, List.getElem_cons_succ] at z0 z1
   go_wp2_with fail
   refine (HON.out _ kc).mono ?_; rintro e w2 ⟨x, y, rfl, hab, k2⟩
   have HAB := hid hab
   clear hab HON z0 z1
   rw [isKd_or] at HAB
   have HP : Hid (preR L (5 : Int).toNat ss tt main = if onS ss main isOr = true then some [(insS (remS ss main) (pa1 main), tt), (insS (remS ss main) (pa2 main), tt)] else none) := hid rfl
   rw [isKd_or]
   generalize onS ss main isOr = ok at *
   go_upto_region 15 with fail
   have kd := (kc.trans k2).trans (Keeps.refl w2).drew
   have c0 := (HB1.out.keeps kd).cell 0 (by simp)
   have c1 := (HB1.out.keeps kd).cell 1 (by simp)
   simp only [List.getElem_cons_zero, List.getElem_cons_succ] at c0 c1
   have h0 := HA.out.keeps kd
   have h1 := HC.out.keeps kd
   have i8 := (HXL.out.keeps k2).keeps (Keeps.refl w2).drew
   have i9 := (HXR.out.keeps k2).keeps (Keeps.refl w2).drew
   refine wp_region_kinds (L := 15) (nt := 215) (ins := [4, 8, 9, 16, 17, 18]) (ds := [115, 116, 117, 118, 119, 120, 121, 122, 123, 124, 125, 126, 127, 6, 7]) (by kernel_rfl) (by kernel_rfl) (fun s v w' => ((fun s => if s = 4 then .val (.pointer (some ⟨w.heap.size, 0, none⟩)) else if s = 6 then .sqs [(insS (remS ss main) x, tt), (insS (remS ss main) y, tt)] else if s = 7 then .val (.bool ok) else if s = 8 then .strs (remS ss main) else if s = 9 then .strs (remS tt main) else if s = 16 then .val (.string x) else if s = 17 then .val (.string y) else if s = 18 then .val (.bool ok) else if s = 115 then .strs (remS ss main) else if s = 116 then .val (.string x) else if s = 117 then .strs (insS (remS ss main) x) else if s = 118 then .val (.pointer (some ⟨w.heap.size, 1, none⟩)) else if s = 119 then .strs (tt) else if s = 120 then .strs (remS ss main) else if s = 121 then .val (.string y) else if s = 122 then .strs (insS (remS ss main) y) else if s = 123 then .val (.pointer (some ⟨w.heap.size, 1, none⟩)) else if s = 124 then .strs (tt) else if s = 125 then .sds [insS (remS ss main) x, tt, insS (remS ss main) y, tt] else if s = 126 then .sqs [(insS (remS ss main) x, tt), (insS (remS ss main) y, tt)] else if s = 127 then .val (.bool ok) else .any : Nat → Kq) s).holds v w') (fun _ _ _ _ h hv => Kq.keeps h hv) ?_ (by kernel_rfl) rfl ?_ ?_
   ·refine lK (kMove 8 (.inl rfl) rfl (by kernel_rfl) (fun d hd => by cases hd; rfl)) ?_
    refine lK (kMove 16 (.inl rfl) rfl (by kernel_rfl) (fun d hd => by cases hd; rfl)) ?_
    refine lK (kIns 115 116 (remS ss main) x rfl rfl (by kernel_rfl) (by kernel_rfl) rfl rfl (by omega) (fun d hd => by cases hd; rfl)) ?_
    refine lK (kPure1 4 (.pointer (some ⟨w.heap.size, 0, none⟩)) (.pointer (some ⟨w.heap.size, 1, none⟩)) rfl (by kernel_rfl) rfl (fun a w1 h1 => by unfold execOp; simp only [h1, Sem.run_bind, run_fieldQ1 w.heap.size]; rfl) (fun d hd => by cases hd; rfl)) ?_
    refine lK (kLoadS 118 _ _ _ rfl rfl (by kernel_rfl) rfl c1 h1 (fun d hd => by cases hd; rfl)) ?_
    refine lK (kMove 8 (.inl rfl) rfl (by kernel_rfl) (fun d hd => by cases hd; rfl)) ?_
    refine lK (kMove 17 (.inl rfl) rfl (by kernel_rfl) (fun d hd => by cases hd; rfl)) ?_
    refine lK (kIns 120 121 (remS ss main) y rfl rfl (by kernel_rfl) (by kernel_rfl) rfl rfl (by omega) (fun d hd => by cases hd; rfl)) ?_
    refine lK (kPure1 4 (.pointer (some ⟨w.heap.size, 0, none⟩)) (.pointer (some ⟨w.heap.size, 1, none⟩)) rfl (by kernel_rfl) rfl (fun a w1 h1 => by unfold execOp; simp only [h1, Sem.run_bind, run_fieldQ1 w.heap.size]; rfl) (fun d hd => by cases hd; rfl)) ?_
    refine lK (kLoadS 123 _ _ _ rfl rfl (by kernel_rfl) rfl c1 h1 (fun d hd => by cases hd; rfl)) ?_
    refine lK (kSides4 117 119 122 124 (insS (remS ss main) x) (tt) (insS (remS ss main) y) (tt) rfl rfl (by kernel_rfl) (by kernel_rfl) (by kernel_rfl) (by kernel_rfl) rfl rfl rfl rfl (fun d hd => by cases hd; rfl)) ?_
    refine lK (kSeqs 125 [(insS (remS ss main) x, tt), (insS (remS ss main) y, tt)] rfl rfl (by kernel_rfl) rfl (by simp) (fun p hp => by rcases List.mem_cons.1 hp with rfl | hp2; (have := (insS_len (remS ss main) x).1; exact ⟨by show (insS (remS ss main) x).length ≤ 1000000; omega, by show (tt).length ≤ 1000000; omega⟩); (obtain rfl := List.mem_singleton.1 hp2; have := (insS_len (remS ss main) y).1; exact ⟨by show (insS (remS ss main) y).length ≤ 1000000; omega, by show (tt).length ≤ 1000000; omega⟩)) (fun d hd => by cases hd; rfl)) ?_
    refine lK (kMove 18 (.inl rfl) rfl (by kernel_rfl) (fun d hd => by cases hd; rfl)) ?_
    refine lK (kMove 126 (.inr rfl) rfl (by kernel_rfl) (fun d hd => by cases hd; rfl)) ?_
    refine lK (kMove 127 (.inr rfl) rfl (by kernel_rfl) (fun d hd => by cases hd; rfl)) True.intro
   ·intro s hs
    have : s = 4 ∨ s = 8 ∨ s = 9 ∨ s = 16 ∨ s = 17 ∨ s = 18 := by simpa using hs
    rcases this with rfl | rfl | rfl | rfl | rfl | rfl
    ·exact rfl
    ·exact i8
    ·exact i9
    ·exact rfl
    ·exact rfl
    ·exact rfl
   ·intro f w' hk hv
    have g6 : SqL w' (f 6) [(insS (remS ss main) x, tt), (insS (remS ss main) y, tt)] := hv 6 (by decide)
    have g7 : f 7 = .bool ok := hv 7 (by decide)
    obtain ⟨p6, c6, e6, _⟩ := g6.shape
    rw [e6] at g6
    have G6 := hid g6
    clear g6 hv
    simp only [putAll, Act.put, List.setIfInBounds_toArray, List.set_cons_zero, List.set_cons_succ, e6, g7]
    go_wp2_with fail
    refine bodyPost_ret (v := .tuple #[.slice p6 2 c6, .bool ok]) (by simp [results, Tryz.results60, go_sem]) rfl ?_
    refine RetPre.mk HP.out (fun e => ?_) G6.out ((k1.trans kd).trans hk)
    obtain ⟨_, hxy⟩ := HAB.out e
    obtain ⟨rfl, rfl⟩ := hxy (by decide)
    rfl
  by_cases e6 : r = 6
  ·subst e6
   have HON := hid (fun wz (kz : Keeps w1 wz) => l11On_any tt HT.out.1 _ main 3 (by omega) wz (HC.out.keeps kz).1)
   have z0 := (HB1.out.keeps kc).cell 0 (by simp)
   have z1 := (HB1.out.keeps kc).cell 1 (by simp)
   simp only [List.getElem_cons_zero, List.getElem_cons_succ] at z0 z1
   go_wp2_with fail
   refine (HON.out _ kc).mono ?_; rintro e w2 ⟨x, y, rfl, hab, k2⟩
   have HAB := hid hab
   clear hab HON z0 z1
   rw [isKd_or] at HAB
   have HP : Hid (preR L (6 : Int).toNat ss tt main = if onS tt main isOr = true then some [(ss, insS (insS (remS tt main) (pa1 main)) (pa2 main))] else none) := hid rfl
   rw [isKd_or]
   generalize onS tt main isOr = ok at *
   go_upto_region 18 with fail
   have kd := (kc.trans k2).trans (Keeps.refl w2).drew
   have c0 := (HB1.out.keeps kd).cell 0 (by simp)
   have c1 := (HB1.out.keeps kd).cell 1 (by simp)
   simp only [List.getElem_cons_zero, List.getElem_cons_succ] at c0 c1
   have h0 := HA.out.keeps kd
   have h1 := HC.out.keeps kd
   have i8 := (HXL.out.keeps k2).keeps (Keeps.refl w2).drew
   have i9 := (HXR.out.keeps k2).keeps (Keeps.refl w2).drew
   refine wp_region_kinds (L := 12) (nt := 215) (ins := [4, 8, 9, 19, 20, 21]) (ds := [138, 139, 140, 141, 142, 143, 144, 145, 146, 147, 6, 7]) (by kernel_rfl) (by kernel_rfl) (fun s v w' => ((fun s => if s = 4 then .val (.pointer (some ⟨w.heap.size, 0, none⟩)) else if s = 6 then .sqs [(ss, insS (insS (remS tt main) x) y)] else if s = 7 then .val (.bool ok) else if s = 8 then .strs (remS ss main) else if s = 9 then .strs (remS tt main) else if s = 19 then .val (.string x) else if s = 20 then .val (.string y) else if s = 21 then .val (.bool ok) else if s = 138 then .val (.pointer (some ⟨w.heap.size, 0, none⟩)) else if s = 139 then .strs (ss) else if s = 140 then .strs (remS tt main) else if s = 141 then .val (.string x) else if s = 142 then .strs (insS (remS tt main) x) else if s = 143 then .val (.string y) else if s = 144 then .strs (insS (insS (remS tt main) x) y) else if s = 145 then .sds [ss, insS (insS (remS tt main) x) y] else if s = 146 then .sqs [(ss, insS (insS (remS tt main) x) y)] else if s = 147 then .val (.bool ok) else .any : Nat → Kq) s).holds v w') (fun _ _ _ _ h hv => Kq.keeps h hv) ?_ (by kernel_rfl) rfl ?_ ?_
   ·refine lK (kPure1 4 (.pointer (some ⟨w.heap.size, 0, none⟩)) (.pointer (some ⟨w.heap.size, 0, none⟩)) rfl (by kernel_rfl) rfl (fun a w1 h1 => by unfold execOp; simp only [h1, Sem.run_bind, run_fieldQ0 w.heap.size]; rfl) (fun d hd => by cases hd; rfl)) ?_
    refine lK (kLoadS 138 _ _ _ rfl rfl (by kernel_rfl) rfl c0 h0 (fun d hd => by cases hd; rfl)) ?_
    refine lK (kMove 9 (.inl rfl) rfl (by kernel_rfl) (fun d hd => by cases hd; rfl)) ?_
    refine lK (kMove 19 (.inl rfl) rfl (by kernel_rfl) (fun d hd => by cases hd; rfl)) ?_
    refine lK (kIns 140 141 (remS tt main) x rfl rfl (by kernel_rfl) (by kernel_rfl) rfl rfl (by omega) (fun d hd => by cases hd; rfl)) ?_
    refine lK (kMove 20 (.inl rfl) rfl (by kernel_rfl) (fun d hd => by cases hd; rfl)) ?_
    refine lK (kIns 142 143 (insS (remS tt main) x) y rfl rfl (by kernel_rfl) (by kernel_rfl) rfl rfl (by have := (insS_len (remS tt main) x).1; omega) (fun d hd => by cases hd; rfl)) ?_
    refine lK (kSides2 139 144 (ss) (insS (insS (remS tt main) x) y) rfl rfl (by kernel_rfl) (by kernel_rfl) rfl rfl (fun d hd => by cases hd; rfl)) ?_
    refine lK (kSeqs 145 [(ss, insS (insS (remS tt main) x) y)] rfl rfl (by kernel_rfl) rfl (by simp) (fun p hp => by obtain rfl := List.mem_singleton.1 hp; have := (insS_len (remS tt main) x).1; have := (insS_len (insS (remS tt main) x) y).1; exact ⟨by show (ss).length ≤ 1000000; omega, by show (insS (insS (remS tt main) x) y).length ≤ 1000000; omega⟩) (fun d hd => by cases hd; rfl)) ?_
    refine lK (kMove 21 (.inl rfl) rfl (by kernel_rfl) (fun d hd => by cases hd; rfl)) ?_
    refine lK (kMove 146 (.inr rfl) rfl (by kernel_rfl) (fun d hd => by cases hd; rfl)) ?_
    refine lK (kMove 147 (.inr rfl) rfl (by kernel_rfl) (fun d hd => by cases hd; rfl)) True.intro
   ·intro s hs
    have : s = 4 ∨ s = 8 ∨ s = 9 ∨ s = 19 ∨ s = 20 ∨ s = 21 := by simpa using hs
    rcases this with rfl | rfl | rfl | rfl | rfl | rfl
    ·exact rfl
    ·exact i8
    ·exact i9
    ·exact rfl
    ·exact rfl
    ·exact rfl
   ·intro f w' hk hv
    have g6 : SqL w' (f 6) [(ss, insS (insS (remS tt main) x) y)] := hv 6 (by decide)
    have g7 : f 7 = .bool ok := hv 7 (by decide)
    obtain ⟨p6, c6, e6, _⟩ := g6.shape
    rw [e6] at g6
    have G6 := hid g6
    clear g6 hv
    simp only [putAll, Act.put, List.setIfInBounds_toArray, List.set_cons_zero, List.set_cons_succ, e6, g7]
    go_wp2_with fail
    refine bodyPost_ret (v := .tuple #[.slice p6 1 c6, .bool ok]) (by simp [results, Tryz.results60, go_sem]) rfl ?_
    refine RetPre.mk HP.out (fun e => ?_) G6.out ((k1.trans kd).trans hk)
    obtain ⟨_, hxy⟩ := HAB.out e
    obtain ⟨rfl, rfl⟩ := hxy (by decide)
    rfl
  by_cases e7 : r = 7
  ·subst e7
   have HON := hid (fun wz (kz : Keeps w1 wz) => l11On_any ss HS.out.1 _ main 4 (by omega) wz (HA.out.keeps kz).1)
   have z0 := (HB1.out.keeps kc).cell 0 (by simp)
   have z1 := (HB1.out.keeps kc).cell 1 (by simp)
   simp only [List.getElem_cons_zero, List.getElem_cons_succ] at z0 z1
   go_wp2_with fail
   refine (HON.out _ kc).mono ?_; rintro e w2 ⟨x, y, rfl, hab, k2⟩
   have HAB := hid hab
   clear hab HON z0 z1
   rw [isKd_im] at HAB
   have HP : Hid (preR L (7 : Int).toNat ss tt main = if onS ss main isIm = true then some [(remS ss main, insS (tt) (pa1 main)), (insS (remS ss main) (pa2 main), tt)] else none) := hid rfl
   rw [isKd_im]
   generalize onS ss main isIm = ok at *
   go_upto_region 21 with fail
   have kd := (kc.trans k2).trans (Keeps.refl w2).drew
   have c0 := (HB1.out.keeps kd).cell 0 (by simp)
   have c1 := (HB1.out.keeps kd).cell 1 (by simp)
   simp only [List.getElem_cons_zero, List.getElem_cons_succ] at c0 c1
   have h0 := HA.out.keeps kd
   have h1 := HC.out.keeps kd
   have i8 := (HXL.out.keeps k2).keeps (Keeps.refl w2).drew
   have i9 := (HXR.out.keeps k2).keeps (Keeps.refl w2).drew
   refine wp_region_kinds (L := 15) (nt := 215) (ins := [4, 8, 9, 22, 23, 24]) (ds := [158, 159, 160, 161, 162, 163, 164, 165, 166, 167, 168, 169, 170, 6, 7]) (by kernel_rfl) (by kernel_rfl) (fun s v w' => ((fun s => if s = 4 then .val (.pointer (some ⟨w.heap.size, 0, none⟩)) else if s = 6 then .sqs [(remS ss main, insS (tt) x), (insS (remS ss main) y, tt)] else if s = 7 then .val (.bool ok) else if s = 8 then .strs (remS ss main) else if s = 9 then .strs (remS tt main) else if s = 22 then .val (.string x) else if s = 23 then .val (.string y) else if s = 24 then .val (.bool ok) else if s = 158 then .strs (remS ss main) else if s = 159 then .val (.pointer (some ⟨w.heap.size, 1, none⟩)) else if s = 160 then .strs (tt) else if s = 161 then .val (.string x) else if s = 162 then .strs (insS (tt) x) else if s = 163 then .strs (remS ss main) else if s = 164 then .val (.string y) else if s = 165 then .strs (insS (remS ss main) y) else if s = 166 then .val (.pointer (some ⟨w.heap.size, 1, none⟩)) else if s = 167 then .strs (tt) else if s = 168 then .sds [remS ss main, insS (tt) x, insS (remS ss main) y, tt] else if s = 169 then .sqs [(remS ss main, insS (tt) x), (insS (remS ss main) y, tt)] else if s = 170 then .val (.bool ok) else .any : Nat → Kq) s).holds v w') (fun _ _ _ _ h hv => Kq.keeps h hv) ?_ (by kernel_rfl) rfl ?_ ?_
   ·refine lK (kMove 8 (.inl rfl) rfl (by kernel_rfl) (fun d hd => by cases hd; rfl)) ?_
    refine lK (kPure1 4 (.pointer (some ⟨w.heap.size, 0, none⟩)) (.pointer (some ⟨w.heap.size, 1, none⟩)) rfl (by kernel_rfl) rfl (fun a w1 h1 => by unfold execOp; simp only [h1, Sem.run_bind, run_fieldQ1 w.heap.size]; rfl) (fun d hd => by cases hd; rfl)) ?_
    refine lK (kLoadS 159 _ _ _ rfl rfl (by kernel_rfl) rfl c1 h1 (fun d hd => by cases hd; rfl)) ?_
    refine lK (kMove 22 (.inl rfl) rfl (by kernel_rfl) (fun d hd => by cases hd; rfl)) ?_
    refine lK (kIns 160 161 (tt) x rfl rfl (by kernel_rfl) (by kernel_rfl) rfl rfl (by omega) (fun d hd => by cases hd; rfl)) ?_
    refine lK (kMove 8 (.inl rfl) rfl (by kernel_rfl) (fun d hd => by cases hd; rfl)) ?_
    refine lK (kMove 23 (.inl rfl) rfl (by kernel_rfl) (fun d hd => by cases hd; rfl)) ?_
    refine lK (kIns 163 164 (remS ss main) y rfl rfl (by kernel_rfl) (by kernel_rfl) rfl rfl (by omega) (fun d hd => by cases hd; rfl)) ?_
    refine lK (kPure1 4 (.pointer (some ⟨w.heap.size, 0, none⟩)) (.pointer (some ⟨w.heap.size, 1, none⟩)) rfl (by kernel_rfl) rfl (fun a w1 h1 => by unfold execOp; simp only [h1, Sem.run_bind, run_fieldQ1 w.heap.size]; rfl) (fun d hd => by cases hd; rfl)) ?_
    refine lK (kLoadS 166 _ _ _ rfl rfl (by kernel_rfl) rfl c1 h1 (fun d hd => by cases hd; rfl)) ?_
    refine lK (kSides4 158 162 165 167 (remS ss main) (insS (tt) x) (insS (remS ss main) y) (tt) rfl rfl (by kernel_rfl) (by kernel_rfl) (by kernel_rfl) (by kernel_rfl) rfl rfl rfl rfl (fun d hd => by cases hd; rfl)) ?_
    refine lK (kSeqs 168 [(remS ss main, insS (tt) x), (insS (remS ss main) y, tt)] rfl rfl (by kernel_rfl) rfl (by simp) (fun p hp => by rcases List.mem_cons.1 hp with rfl | hp2; (have := (insS_len (tt) x).1; exact ⟨by show (remS ss main).length ≤ 1000000; omega, by show (insS (tt) x).length ≤ 1000000; omega⟩); (obtain rfl := List.mem_singleton.1 hp2; have := (insS_len (remS ss main) y).1; exact ⟨by show (insS (remS ss main) y).length ≤ 1000000; omega, by show (tt).length ≤ 1000000; omega⟩)) (fun d hd => by cases hd; rfl)) ?_
    refine lK (kMove 24 (.inl rfl) rfl (by kernel_rfl) (fun d hd => by cases hd; rfl)) ?_
    refine lK (kMove 169 (.inr rfl) rfl (by kernel_rfl) (fun d hd => by cases hd; rfl)) ?_
    refine lK (kMove 170 (.inr rfl) rfl (by kernel_rfl) (fun d hd => by cases hd; rfl)) True.intro
   ·intro s hs
    have : s = 4 ∨ s = 8 ∨ s = 9 ∨ s = 22 ∨ s = 23 ∨ s = 24 := by simpa using hs
    rcases this with rfl | rfl | rfl | rfl | rfl | rfl
    ·exact rfl
    ·exact i8
    ·exact i9
    ·exact rfl
    ·exact rfl
    ·exact rfl
   ·intro f w' hk hv
    have g6 : SqL w' (f 6) [(remS ss main, insS (tt) x), (insS (remS ss main) y, tt)] := hv 6 (by decide)
    have g7 : f 7 = .bool ok := hv 7 (by decide)
    obtain ⟨p6, c6, e6, _⟩ := g6.shape
    rw [e6] at g6
    have G6 := hid g6
    clear g6 hv
    simp only [putAll, Act.put, List.setIfInBounds_toArray, List.set_cons_zero, List.set_cons_succ, e6, g7]
    go_wp2_with fail
    refine bodyPost_ret (v := .tuple #[.slice p6 2 c6, .bool ok]) (by simp [results, Tryz.results60, go_sem]) rfl ?_
    refine RetPre.mk HP.out (fun e => ?_) G6.out ((k1.trans kd).trans hk)
    obtain ⟨_, hxy⟩ := HAB.out e
    obtain ⟨rfl, rfl⟩ := hxy (by decide)
    rfl
  by_cases e1 : r = 1
  ·subst e1
   have HS1 := hid (fun wz (kz : Keeps w1 wz) => says_in ss main _ wz (HA.out.keeps kz).1)
   have HS2 := hid (fun wz (kz : Keeps w1 wz) => says_in tt main _ wz (HC.out.keeps kz).1)
   have HP : Hid (preR L (1 : Int).toNat ss tt main = if (inS ss main && inS tt main) = true then some [] else none) := hid rfl
   generalize inS ss main = o1 at *
   generalize inS tt main = o2 at *
   have ka := kc.alloc (.cells #[] 26)
   have z0 := (HB1.out.keeps ka).cell 0 (by simp)
   have z1 := (HB1.out.keeps ka).cell 1 (by simp)
   simp only [List.getElem_cons_zero, List.getElem_cons_succ] at z0 z1
   have KA := hid ka
   clear ka
   cases o1
   ·go_wp2_with fail
    refine (HS1.out _ KA.out).mono ?_; rintro e w' ⟨rfl, rfl⟩
    go_wp2_with fail
    refine bodyPost_ret (v := .tuple #[.slice (some ⟨wc.heap.size, 0, none⟩) 0 0, .bool false]) (by simp [results, Tryz.results60, go_sem]) rfl ?_
    exact RetPre.mk (ps := []) HP.out (fun e => rfl) (SqL.none0 _ _) (k1.trans KA.out)
   ·go_wp2_with fail
    refine (HS1.out _ KA.out).mono ?_; rintro e w' ⟨rfl, rfl⟩
    go_wp2_with fail
    refine (HS2.out _ KA.out).mono ?_; rintro e w' ⟨rfl, rfl⟩
    go_wp2_with fail
    refine bodyPost_ret (v := .tuple #[.slice (some ⟨wc.heap.size, 0, none⟩) 0 0, .bool o2]) (by simp [results, Tryz.results60, go_sem]) rfl ?_
    exact RetPre.mk (ps := []) HP.out (fun e => rfl) (SqL.none0 _ _) (k1.trans KA.out)
  by_cases e2 : r = 2
  ·subst e2
   have HS1 := hid (fun wz (kz : Keeps w1 wz) => says_in ss ⟨#[70]⟩ _ wz (HA.out.keeps kz).1)
   have HP : Hid (preR L (2 : Int).toNat ss tt main = if (decide (main = ⟨#[]⟩) && inS ss (txS .fls)) = true then some [] else none) := hid rfl
   rw [tx_fls] at HP
   generalize inS ss ⟨#[70]⟩ = o1 at *
   have ka := kc.alloc (.cells #[] 26)
   have z0 := (HB1.out.keeps ka).cell 0 (by simp)
   simp only [List.getElem_cons_zero] at z0
   have KA := hid ka
   clear ka
   by_cases hm : main = ⟨#[]⟩
   ·subst hm
    rw [decide_eq_true rfl] at HP
    go_wp2_with fail
    refine (HS1.out _ KA.out).mono ?_; rintro e w' ⟨rfl, rfl⟩
    go_wp2_with fail
    refine bodyPost_ret (v := .tuple #[.slice (some ⟨wc.heap.size, 0, none⟩) 0 0, .bool o1]) (by simp [results, Tryz.results60, go_sem]) rfl ?_
    exact RetPre.mk (ps := []) HP.out (fun e => rfl) (SqL.none0 _ _) (k1.trans KA.out)
   ·have hm2 := toL_ne hm
    rw [decide_eq_false hm] at HP
    go_wp2_with fail
    refine bodyPost_ret (v := .tuple #[.slice (some ⟨wc.heap.size, 0, none⟩) 0 0, .bool false]) (by simp [results, Tryz.results60, go_sem]) rfl ?_
    exact RetPre.mk (ps := []) HP.out (fun e => rfl) (SqL.none0 _ _) (k1.trans KA.out)
  by_cases e8 : r = 8
  ·subst e8
   have HON := hid (fun wz (kz : Keeps w1 wz) => l11On_any tt HT.out.1 _ main 4 (by omega) wz (HC.out.keeps kz).1)
   have z0 := (HB1.out.keeps kc).cell 0 (by simp)
   have z1 := (HB1.out.keeps kc).cell 1 (by simp)
   simp only [List.getElem_cons_zero, List.getElem_cons_succ] at z0 z1
   obtain ⟨p9, n9, c9, rfl⟩ := HXR.out.sh
   go_wp2_with fail
   refine (HON.out _ kc).mono ?_; rintro e w2 ⟨x, y, rfl, hab, k2⟩
   have HAB := hid hab
   clear hab HON z0 z1
   rw [isKd_im] at HAB
   have HP : Hid (preR L (8 : Int).toNat ss tt main = if onS tt main isIm = true then some [(insS ss (pa1 main), insS (remS tt main) (pa2 main))] else none) := hid rfl
   rw [isKd_im]
   generalize onS tt main isIm = ok at *
   have z0 := (HB1.out.keeps (kc.trans k2)).cell 0 (by simp)
   simp only [List.getElem_cons_zero] at z0
   have HI1 := hid (l02InsertR_any ss _ x w2 (HA.out.keeps (kc.trans k2)) (by omega))
   have HI2 := hid (fun wz (kz : Keeps wc wz) => l02InsertR_any (remS tt main) _ y wz (HXR.out.keeps kz) (by omega))
   go_wp2_with fail
   refine HI1.out.mono ?_; rintro e w3 ⟨v3, rfl, hv3, k3⟩
   obtain ⟨p3, n3, c3, rfl⟩ := hv3.sh
   have HV3 := hid hv3
   clear hv3 HI1 z0
   go_wp2_with fail
   refine (HI2.out _ (k2.trans k3)).mono ?_; rintro e w4 ⟨v4, rfl, hv4, k4⟩
   obtain ⟨p4, n4, c4, rfl⟩ := hv4.sh
   have hd := SdL.lit w4 [.slice p3 n3 c3, .slice p4 n4 c4] [insS ss x, insS (remS tt main) y] rfl (by simp) (fun i h1 h2 => by
    simp at h1
    have hi : i = 0 ∨ i = 1 := by omega
    rcases hi with rfl | rfl
    ·exact HV3.out.keeps k4
    ·exact hv4)
   have HSQ := hid (l11Sequents_any [(insS ss x, insS (remS tt main) y)] (by simp) (fun p hp => by obtain rfl := List.mem_singleton.1 hp; have := (insS_len ss x).1; have := (insS_len (remS tt main) y).1; exact ⟨by show (insS ss x).length ≤ 1000000; omega, by show (insS (remS tt main) y).length ≤ 1000000; omega⟩) _ _ hd)
   have KC := hid ((kc.trans k2).trans (k3.trans (k4.trans ((Keeps.refl w4).alloc (.cells #[.slice p3 n3 c3, .slice p4 n4 c4] 24)))))
   clear hd hv4 HI2
   go_wp2_with fail
   refine HSQ.out.mono ?_; rintro e w5 ⟨v5, rfl, ⟨p5, n5, c5, rfl⟩, h5, k5⟩
   go_wp2_with fail
   refine bodyPost_ret (v := .tuple #[.slice p5 n5 c5, .bool ok]) (by simp [results, Tryz.results60, go_sem]) rfl ?_
   refine RetPre.mk HP.out (fun e => ?_) h5 ((k1.trans KC.out).trans k5)
   obtain ⟨_, hxy⟩ := HAB.out e
   obtain ⟨rfl, rfl⟩ := hxy (by decide)
   rfl
  have HPd : preR L r.toNat ss tt main = if (isTx main && (r == 14)) = true then some [(ss, insS tt main), (insS ss main, tt)] else none := by
   obtain ⟨r9, r10, r11, r12⟩ := HR.out
   unfold preR
   rw [if_neg (by omega), if_neg (by omega), if_neg (by omega), if_neg (by omega), if_neg (by omega), if_neg (by omega), if_neg (by omega), if_neg (by omega), if_neg (by omega), if_neg (by omega), if_neg (by omega), if_neg (by omega)]
   by_cases h : r = 14
   ·subst h
    rw [if_pos (show Int.toNat 14 = 14 from rfl), show ((14 : Int) == 14) = true from rfl, Bool.and_true]
   ·rw [if_neg (by omega)]
    have : (r == 14) = false := by simpa using h
    rw [this, Bool.and_false]
    rfl
  have HP := hid HPd
  clear HPd
  have q1 : (r == 1) = false := by simpa using e1
  have q2 : (r == 2) = false := by simpa using e2
  have q3 : (r == 3) = false := by simpa using e3
  have q4 : (r == 4) = false := by simpa using e4
  have q5 : (r == 5) = false := by simpa using e5
  have q6 : (r == 6) = false := by simpa using e6
  have q7 : (r == 7) = false := by simpa using e7
  have q8 : (r == 8) = false := by simpa using e8
  have HG := hid (fun wz => l02GoodA main wz hms)
  unfold GoodR at HG
  generalize isTx main = ok at *
  clear e1 e2 e3 e4 e5 e6 e7 e8
  go_wp2_with fail
  refine (HG.out _).mono ?_; rintro e w2 ⟨v2, rfl, k2, -⟩
  clear HG
  cases ok
  ·go_upto_region 26 with fail
   have kd := (kc.trans k2).trans (Keeps.refl w2).drew
   have c0 := (HB1.out.keeps kd).cell 0 (by simp)
   have c1 := (HB1.out.keeps kd).cell 1 (by simp)
   simp only [List.getElem_cons_zero, List.getElem_cons_succ] at c0 c1
   have h0 := HA.out.keeps kd
   have h1 := HC.out.keeps kd
   refine wp_region_kinds (L := 21) (nt := 215) (ins := [0, 2, 4, 29]) (ds := [196, 197, 198, 199, 200, 201, 202, 203, 204, 205, 206, 207, 208, 209, 210, 211, 212, 213, 214, 6, 7]) (by kernel_rfl) (by kernel_rfl) (fun s v w' => ((fun s => if s = 0 then .val (.int .i64 r) else if s = 2 then .val (.string main) else if s = 4 then .val (.pointer (some ⟨w.heap.size, 0, none⟩)) else if s = 6 then .sqs [(ss, insS (tt) main), (insS (ss) main, tt)] else if s = 7 then .val (.bool false) else if s = 29 then .val (.bool false) else if s = 196 then .val (.pointer (some ⟨w.heap.size, 0, none⟩)) else if s = 197 then .strs (ss) else if s = 198 then .val (.pointer (some ⟨w.heap.size, 1, none⟩)) else if s = 199 then .strs (tt) else if s = 200 then .val (.string main) else if s = 201 then .strs (insS (tt) main) else if s = 202 then .val (.pointer (some ⟨w.heap.size, 0, none⟩)) else if s = 203 then .strs (ss) else if s = 204 then .val (.string main) else if s = 205 then .strs (insS (ss) main) else if s = 206 then .val (.pointer (some ⟨w.heap.size, 1, none⟩)) else if s = 207 then .strs (tt) else if s = 208 then .sds [ss, insS (tt) main, insS (ss) main, tt] else if s = 209 then .sqs [(ss, insS (tt) main), (insS (ss) main, tt)] else if s = 210 then .val (.bool false) else if s = 211 then .val (.bool false) else if s = 214 then .val (.bool false) else .any : Nat → Kq) s).holds v w') (fun _ _ _ _ h hv => Kq.keeps h hv) ?_ (by kernel_rfl) rfl ?_ ?_
   ·refine lK (kPure1 4 (.pointer (some ⟨w.heap.size, 0, none⟩)) (.pointer (some ⟨w.heap.size, 0, none⟩)) rfl (by kernel_rfl) rfl (fun a w1 h1 => by unfold execOp; simp only [h1, Sem.run_bind, run_fieldQ0 w.heap.size]; rfl) (fun d hd => by cases hd; rfl)) ?_
    refine lK (kLoadS 196 _ _ _ rfl rfl (by kernel_rfl) rfl c0 h0 (fun d hd => by cases hd; rfl)) ?_
    refine lK (kPure1 4 (.pointer (some ⟨w.heap.size, 0, none⟩)) (.pointer (some ⟨w.heap.size, 1, none⟩)) rfl (by kernel_rfl) rfl (fun a w1 h1 => by unfold execOp; simp only [h1, Sem.run_bind, run_fieldQ1 w.heap.size]; rfl) (fun d hd => by cases hd; rfl)) ?_
    refine lK (kLoadS 198 _ _ _ rfl rfl (by kernel_rfl) rfl c1 h1 (fun d hd => by cases hd; rfl)) ?_
    refine lK (kMove 2 (.inl rfl) rfl (by kernel_rfl) (fun d hd => by cases hd; rfl)) ?_
    refine lK (kIns 199 200 (tt) main rfl rfl (by kernel_rfl) (by kernel_rfl) rfl rfl (by omega) (fun d hd => by cases hd; rfl)) ?_
    refine lK (kPure1 4 (.pointer (some ⟨w.heap.size, 0, none⟩)) (.pointer (some ⟨w.heap.size, 0, none⟩)) rfl (by kernel_rfl) rfl (fun a w1 h1 => by unfold execOp; simp only [h1, Sem.run_bind, run_fieldQ0 w.heap.size]; rfl) (fun d hd => by cases hd; rfl)) ?_
    refine lK (kLoadS 202 _ _ _ rfl rfl (by kernel_rfl) rfl c0 h0 (fun d hd => by cases hd; rfl)) ?_
    refine lK (kMove 2 (.inl rfl) rfl (by kernel_rfl) (fun d hd => by cases hd; rfl)) ?_
    refine lK (kIns 203 204 (ss) main rfl rfl (by kernel_rfl) (by kernel_rfl) rfl rfl (by omega) (fun d hd => by cases hd; rfl)) ?_
    refine lK (kPure1 4 (.pointer (some ⟨w.heap.size, 0, none⟩)) (.pointer (some ⟨w.heap.size, 1, none⟩)) rfl (by kernel_rfl) rfl (fun a w1 h1 => by unfold execOp; simp only [h1, Sem.run_bind, run_fieldQ1 w.heap.size]; rfl) (fun d hd => by cases hd; rfl)) ?_
    refine lK (kLoadS 206 _ _ _ rfl rfl (by kernel_rfl) rfl c1 h1 (fun d hd => by cases hd; rfl)) ?_
    refine lK (kSides4 197 201 205 207 (ss) (insS (tt) main) (insS (ss) main) (tt) rfl rfl (by kernel_rfl) (by kernel_rfl) (by kernel_rfl) (by kernel_rfl) rfl rfl rfl rfl (fun d hd => by cases hd; rfl)) ?_
    refine lK (kSeqs 208 [(ss, insS (tt) main), (insS (ss) main, tt)] rfl rfl (by kernel_rfl) rfl (by simp) (fun p hp => by rcases List.mem_cons.1 hp with rfl | hp2; (have := (insS_len (tt) main).1; exact ⟨by show (ss).length ≤ 1000000; omega, by show (insS (tt) main).length ≤ 1000000; omega⟩); (obtain rfl := List.mem_singleton.1 hp2; have := (insS_len (ss) main).1; exact ⟨by show (insS (ss) main).length ≤ 1000000; omega, by show (tt).length ≤ 1000000; omega⟩)) (fun d hd => by cases hd; rfl)) ?_
    refine lK (kMove 29 (.inl rfl) rfl (by kernel_rfl) (fun d hd => by cases hd; rfl)) ?_
    refine lK (kMove 210 (.inl rfl) rfl (by kernel_rfl) (fun d hd => by cases hd; rfl)) ?_
    refine lK (kOff 15 211 false rfl rfl (by decide) (by kernel_rfl) rfl (fun d hd => by cases hd; rfl)) ?_
    refine lK (kOff 15 211 false rfl rfl (by decide) (by kernel_rfl) rfl (fun d hd => by cases hd; rfl)) ?_
    refine lK (kPickF 211 _ (.bool false) rfl rfl (by kernel_rfl) rfl (fun d hd => by cases hd; rfl)) ?_
    refine lK (kMove 209 (.inr rfl) rfl (by kernel_rfl) (fun d hd => by cases hd; rfl)) ?_
    refine lK (kMove 214 (.inr rfl) rfl (by kernel_rfl) (fun d hd => by cases hd; rfl)) True.intro
   ·intro s hs
    have : s = 0 ∨ s = 2 ∨ s = 4 ∨ s = 29 := by simpa using hs
    rcases this with rfl | rfl | rfl | rfl <;> rfl
   ·intro f w' hk hv
    have g6 : SqL w' (f 6) [(ss, insS (tt) main), (insS (ss) main, tt)] := hv 6 (by decide)
    have g7 : f 7 = .bool false := hv 7 (by decide)
    obtain ⟨p6, c6, e6, _⟩ := g6.shape
    rw [e6] at g6
    have G6 := hid g6
    clear g6 hv
    generalize hb14 : (r == 14) = b14 at *
    simp only [putAll, Act.put, List.setIfInBounds_toArray, List.set_cons_zero, List.set_cons_succ, e6, g7]
    clear hb14 g7
    go_wp2_with fail
    refine bodyPost_ret (v := .tuple #[.slice p6 2 c6, .bool false]) (by simp [results, Tryz.results60, go_sem]) rfl ?_
    exact RetPre.mk HP.out (fun e => rfl) G6.out ((k1.trans kd).trans hk)
  ·go_upto_region 26 with fail
   have kd := (kc.trans k2).trans (Keeps.refl w2).drew
   have c0 := (HB1.out.keeps kd).cell 0 (by simp)
   have c1 := (HB1.out.keeps kd).cell 1 (by simp)
   simp only [List.getElem_cons_zero, List.getElem_cons_succ] at c0 c1
   have h0 := HA.out.keeps kd
   have h1 := HC.out.keeps kd
   refine wp_region_kinds (L := 21) (nt := 215) (ins := [0, 2, 4, 29]) (ds := [196, 197, 198, 199, 200, 201, 202, 203, 204, 205, 206, 207, 208, 209, 210, 211, 212, 213, 214, 6, 7]) (by kernel_rfl) (by kernel_rfl) (fun s v w' => ((fun s => if s = 0 then .val (.int .i64 r) else if s = 2 then .val (.string main) else if s = 4 then .val (.pointer (some ⟨w.heap.size, 0, none⟩)) else if s = 6 then .sqs [(ss, insS (tt) main), (insS (ss) main, tt)] else if s = 7 then .val (.bool (r == 14)) else if s = 29 then .val (.bool true) else if s = 196 then .val (.pointer (some ⟨w.heap.size, 0, none⟩)) else if s = 197 then .strs (ss) else if s = 198 then .val (.pointer (some ⟨w.heap.size, 1, none⟩)) else if s = 199 then .strs (tt) else if s = 200 then .val (.string main) else if s = 201 then .strs (insS (tt) main) else if s = 202 then .val (.pointer (some ⟨w.heap.size, 0, none⟩)) else if s = 203 then .strs (ss) else if s = 204 then .val (.string main) else if s = 205 then .strs (insS (ss) main) else if s = 206 then .val (.pointer (some ⟨w.heap.size, 1, none⟩)) else if s = 207 then .strs (tt) else if s = 208 then .sds [ss, insS (tt) main, insS (ss) main, tt] else if s = 209 then .sqs [(ss, insS (tt) main), (insS (ss) main, tt)] else if s = 210 then .val (.bool true) else if s = 211 then .val (.bool true) else if s = 212 then .val (.int .i64 r) else if s = 213 then .val (.bool (r == 14)) else if s = 214 then .val (.bool (r == 14)) else .any : Nat → Kq) s).holds v w') (fun _ _ _ _ h hv => Kq.keeps h hv) ?_ (by kernel_rfl) rfl ?_ ?_
   ·refine lK (kPure1 4 (.pointer (some ⟨w.heap.size, 0, none⟩)) (.pointer (some ⟨w.heap.size, 0, none⟩)) rfl (by kernel_rfl) rfl (fun a w1 h1 => by unfold execOp; simp only [h1, Sem.run_bind, run_fieldQ0 w.heap.size]; rfl) (fun d hd => by cases hd; rfl)) ?_
    refine lK (kLoadS 196 _ _ _ rfl rfl (by kernel_rfl) rfl c0 h0 (fun d hd => by cases hd; rfl)) ?_
    refine lK (kPure1 4 (.pointer (some ⟨w.heap.size, 0, none⟩)) (.pointer (some ⟨w.heap.size, 1, none⟩)) rfl (by kernel_rfl) rfl (fun a w1 h1 => by unfold execOp; simp only [h1, Sem.run_bind, run_fieldQ1 w.heap.size]; rfl) (fun d hd => by cases hd; rfl)) ?_
    refine lK (kLoadS 198 _ _ _ rfl rfl (by kernel_rfl) rfl c1 h1 (fun d hd => by cases hd; rfl)) ?_
    refine lK (kMove 2 (.inl rfl) rfl (by kernel_rfl) (fun d hd => by cases hd; rfl)) ?_
    refine lK (kIns 199 200 (tt) main rfl rfl (by kernel_rfl) (by kernel_rfl) rfl rfl (by omega) (fun d hd => by cases hd; rfl)) ?_
    refine lK (kPure1 4 (.pointer (some ⟨w.heap.size, 0, none⟩)) (.pointer (some ⟨w.heap.size, 0, none⟩)) rfl (by kernel_rfl) rfl (fun a w1 h1 => by unfold execOp; simp only [h1, Sem.run_bind, run_fieldQ0 w.heap.size]; rfl) (fun d hd => by cases hd; rfl)) ?_
    refine lK (kLoadS 202 _ _ _ rfl rfl (by kernel_rfl) rfl c0 h0 (fun d hd => by cases hd; rfl)) ?_
    refine lK (kMove 2 (.inl rfl) rfl (by kernel_rfl) (fun d hd => by cases hd; rfl)) ?_
    refine lK (kIns 203 204 (ss) main rfl rfl (by kernel_rfl) (by kernel_rfl) rfl rfl (by omega) (fun d hd => by cases hd; rfl)) ?_
    refine lK (kPure1 4 (.pointer (some ⟨w.heap.size, 0, none⟩)) (.pointer (some ⟨w.heap.size, 1, none⟩)) rfl (by kernel_rfl) rfl (fun a w1 h1 => by unfold execOp; simp only [h1, Sem.run_bind, run_fieldQ1 w.heap.size]; rfl) (fun d hd => by cases hd; rfl)) ?_
    refine lK (kLoadS 206 _ _ _ rfl rfl (by kernel_rfl) rfl c1 h1 (fun d hd => by cases hd; rfl)) ?_
    refine lK (kSides4 197 201 205 207 (ss) (insS (tt) main) (insS (ss) main) (tt) rfl rfl (by kernel_rfl) (by kernel_rfl) (by kernel_rfl) (by kernel_rfl) rfl rfl rfl rfl (fun d hd => by cases hd; rfl)) ?_
    refine lK (kSeqs 208 [(ss, insS (tt) main), (insS (ss) main, tt)] rfl rfl (by kernel_rfl) rfl (by simp) (fun p hp => by rcases List.mem_cons.1 hp with rfl | hp2; (have := (insS_len (tt) main).1; exact ⟨by show (ss).length ≤ 1000000; omega, by show (insS (tt) main).length ≤ 1000000; omega⟩); (obtain rfl := List.mem_singleton.1 hp2; have := (insS_len (ss) main).1; exact ⟨by show (insS (ss) main).length ≤ 1000000; omega, by show (tt).length ≤ 1000000; omega⟩)) (fun d hd => by cases hd; rfl)) ?_
    refine lK (kMove 29 (.inl rfl) rfl (by kernel_rfl) (fun d hd => by cases hd; rfl)) ?_
    refine lK (kMove 210 (.inl rfl) rfl (by kernel_rfl) (fun d hd => by cases hd; rfl)) ?_
    refine lK (kOn1 15 211 true 0 (.int .i64 r) (.int .i64 r) rfl rfl (by decide) (by kernel_rfl) rfl (by kernel_rfl) rfl (fun a w1 h1 => by unfold execOp; simp only [h1, Sem.run_pure]) (fun d hd => by cases hd; rfl)) ?_
    refine lK (kOn1 15 211 true 212 (.int .i64 r) (.bool (r == 14)) rfl rfl (by decide) (by kernel_rfl) rfl (by kernel_rfl) rfl (fun a w1 h1 => by unfold execOp; have hc1 : a.eval (.const (.int .i64 14)) = .int .i64 14 := rfl; simp only [h1, hc1, Sem.run_bind, run_eqI r 14]; rfl) (fun d hd => by cases hd; rfl)) ?_
    refine lK (kPickT 211 213 _ (.bool (r == 14)) rfl rfl (by kernel_rfl) (by kernel_rfl) rfl rfl (fun d hd => by cases hd; rfl)) ?_
    refine lK (kMove 209 (.inr rfl) rfl (by kernel_rfl) (fun d hd => by cases hd; rfl)) ?_
    refine lK (kMove 214 (.inr rfl) rfl (by kernel_rfl) (fun d hd => by cases hd; rfl)) True.intro
   ·intro s hs
    have : s = 0 ∨ s = 2 ∨ s = 4 ∨ s = 29 := by simpa using hs
    rcases this with rfl | rfl | rfl | rfl <;> rfl
   ·intro f w' hk hv
    have g6 : SqL w' (f 6) [(ss, insS (tt) main), (insS (ss) main, tt)] := hv 6 (by decide)
    have g7 : f 7 = .bool (r == 14) := hv 7 (by decide)
    obtain ⟨p6, c6, e6, _⟩ := g6.shape
    rw [e6] at g6
    have G6 := hid g6
    clear g6 hv
    generalize hb14 : (r == 14) = b14 at *
    simp only [putAll, Act.put, List.setIfInBounds_toArray, List.set_cons_zero, List.set_cons_succ, e6, g7]
    clear hb14 g7
    go_wp2_with fail
    refine bodyPost_ret (v := .tuple #[.slice p6 2 c6, .bool b14]) (by simp [results, Tryz.results60, go_sem]) rfl ?_
    exact RetPre.mk HP.out (fun e => rfl) G6.out ((k1.trans kd).trans hk)
end Go.Proofs.YtkkcfifnkcnceaaGreat
