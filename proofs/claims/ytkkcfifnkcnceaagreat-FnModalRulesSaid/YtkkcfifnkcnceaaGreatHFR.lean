/- The program's premises of a rule. -/
import Derived.Test.YtkkcfifnkcnceaaGreatHFL
import Derived.Test.YtkkcfifnkcnceaaGreatHV9
import Derived.Test.YtkkcfifnkcnceaaGreatHER
namespace Go.Proofs.YtkkcfifnkcnceaaGreat
open Go.RowKit
theorem preR_split (L r : Nat) (ss tt : List ByteArray) (main : ByteArray) (hne : main ∈ ss ∨ main ∈ tt → main ≠ ⟨#[]⟩) (h1 : r ≠ 1) (h2 : r ≠ 2) (h12 : r ≠ 12) (h14 : r ≠ 14) :
  preR L r ss tt main = match (if inS ss main = true then lpR L r ss tt main else none) with
   | some ps => some ps
   | none => if inS tt main = true then rpR L r ss tt main else none := by
 by_cases e3 : r = 3
 ·subst e3
  rw [show preR L 3 ss tt main = if (onS ss main isAn) = true then some [(insS (insS (remS ss main) (pa1 main)) (pa2 main), tt)] else none from rfl, show lpR L 3 ss tt main = if (isAn (txF main)) = true then some [(insS (insS (remS ss main) (pa1 main)) (pa2 main), tt)] else none from rfl, show rpR L 3 ss tt main = none from rfl]
  unfold onS
  cases inS ss main <;> cases inS tt main <;> cases isAn (txF main) <;> rfl
 by_cases e4 : r = 4
 ·subst e4
  rw [show preR L 4 ss tt main = if (onS tt main isAn) = true then some [(ss, insS (remS tt main) (pa1 main)), (ss, insS (remS tt main) (pa2 main))] else none from rfl, show lpR L 4 ss tt main = none from rfl, show rpR L 4 ss tt main = if (isAn (txF main)) = true then some [(ss, insS (remS tt main) (pa1 main)), (ss, insS (remS tt main) (pa2 main))] else none from rfl]
  unfold onS
  cases inS ss main <;> cases inS tt main <;> cases isAn (txF main) <;> rfl
 by_cases e5 : r = 5
 ·subst e5
  rw [show preR L 5 ss tt main = if (onS ss main isOr) = true then some [(insS (remS ss main) (pa1 main), tt), (insS (remS ss main) (pa2 main), tt)] else none from rfl, show lpR L 5 ss tt main = if (isOr (txF main)) = true then some [(insS (remS ss main) (pa1 main), tt), (insS (remS ss main) (pa2 main), tt)] else none from rfl, show rpR L 5 ss tt main = none from rfl]
  unfold onS
  cases inS ss main <;> cases inS tt main <;> cases isOr (txF main) <;> rfl
 by_cases e6 : r = 6
 ·subst e6
  rw [show preR L 6 ss tt main = if (onS tt main isOr) = true then some [(ss, insS (insS (remS tt main) (pa1 main)) (pa2 main))] else none from rfl, show lpR L 6 ss tt main = none from rfl, show rpR L 6 ss tt main = if (isOr (txF main)) = true then some [(ss, insS (insS (remS tt main) (pa1 main)) (pa2 main))] else none from rfl]
  unfold onS
  cases inS ss main <;> cases inS tt main <;> cases isOr (txF main) <;> rfl
 by_cases e7 : r = 7
 ·subst e7
  rw [show preR L 7 ss tt main = if (onS ss main isIm) = true then some [(remS ss main, insS tt (pa1 main)), (insS (remS ss main) (pa2 main), tt)] else none from rfl, show lpR L 7 ss tt main = if (isIm (txF main)) = true then some [(remS ss main, insS tt (pa1 main)), (insS (remS ss main) (pa2 main), tt)] else none from rfl, show rpR L 7 ss tt main = none from rfl]
  unfold onS
  cases inS ss main <;> cases inS tt main <;> cases isIm (txF main) <;> rfl
 by_cases e8 : r = 8
 ·subst e8
  rw [show preR L 8 ss tt main = if (onS tt main isIm) = true then some [(insS ss (pa1 main), insS (remS tt main) (pa2 main))] else none from rfl, show lpR L 8 ss tt main = none from rfl, show rpR L 8 ss tt main = if (isIm (txF main)) = true then some [(insS ss (pa1 main), insS (remS tt main) (pa2 main))] else none from rfl]
  unfold onS
  cases inS ss main <;> cases inS tt main <;> cases isIm (txF main) <;> rfl
 by_cases e9 : r = 9
 ·subst e9
  rw [show preR L 9 ss tt main = if (onS ss main isBx && rfL L) = true then some [(insS ss (paI main), tt)] else none from rfl, show lpR L 9 ss tt main = if (isBx (txF main) && rfL L) = true then some [(insS ss (paI main), tt)] else none from rfl, show rpR L 9 ss tt main = none from rfl]
  unfold onS
  cases inS ss main <;> cases inS tt main <;> cases isBx (txF main) <;> cases rfL L <;> rfl
 by_cases e10 : r = 10
 ·subst e10
  rw [show preR L 10 ss tt main = if (onS tt main isDi && rfL L) = true then some [(ss, insS tt (paI main))] else none from rfl, show lpR L 10 ss tt main = none from rfl, show rpR L 10 ss tt main = if (isDi (txF main) && rfL L) = true then some [(ss, insS tt (paI main))] else none from rfl]
  unfold onS
  cases inS ss main <;> cases inS tt main <;> cases isDi (txF main) <;> cases rfL L <;> rfl
 by_cases e11 : r = 11
 ·subst e11
  rw [show preR L 11 ss tt main = if onS tt main isBx = true then some [moBx L ss tt main] else if onS ss main isDi = true then some [moDi L ss tt main] else none from rfl, show lpR L 11 ss tt main = if isDi (txF main) = true then some [((mdQ L ss tt main).1, (mdQ L ss tt main).2)] else none from rfl, show rpR L 11 ss tt main = if isBx (txF main) = true then some [((mdQ L ss tt main).1, (mdQ L ss tt main).2)] else none from rfl]
  unfold onS
  have hx : ¬ (isBx (txF main) = true ∧ isDi (txF main) = true) := by cases txF main <;> simp [isBx, isDi]
  have hm : inS ss main = true ∨ inS tt main = true → mdQ L ss tt main = if isBx (txF main) = true then moBx L ss tt main else moDi L ss tt main := fun h => by
   unfold mdQ
   rw [if_neg (hne (by rw [inS_iff, inS_iff] at h; exact h))]
  generalize mdQ L ss tt main = md at *
  generalize moBx L ss tt main = mb at *
  generalize moDi L ss tt main = mo at *
  clear hne
  generalize inS ss main = o1 at *
  generalize inS tt main = o2 at *
  generalize isBx (txF main) = bx at *
  generalize isDi (txF main) = di at *
  cases o1 <;> cases o2 <;> cases bx <;> cases di <;> first | rfl | (exact absurd ⟨rfl, rfl⟩ hx) | (rw [hm (.inl rfl)]; rfl) | (rw [hm (.inr rfl)]; rfl)
 rw [show preR L r ss tt main = none by
  unfold preR
  rw [if_neg (by omega), if_neg (by omega), if_neg (by omega), if_neg (by omega), if_neg (by omega), if_neg (by omega), if_neg (by omega), if_neg (by omega), if_neg (by omega), if_neg (by omega), if_neg (by omega), if_neg (by omega), if_neg (by omega)], show lpR L r ss tt main = none by
  unfold lpR
  rw [if_neg (by omega), if_neg (by omega), if_neg (by omega), if_neg (by omega), if_neg (by omega)], show rpR L r ss tt main = none by
  unfold rpR
  rw [if_neg (by omega), if_neg (by omega), if_neg (by omega), if_neg (by omega), if_neg (by omega)]]
 cases inS ss main <;> cases inS tt main <;> rfl
def rowP (o : Option (List SqT)) : Kq := .pr (fun v w => (∃ p n c, v = .slice p n c) ∧ ∀ ps, o = some ps → SqL w v ps) (fun _ _ _ k h => ⟨h.1, fun ps e => (h.2 ps e).keeps k⟩)
def tupP (o : Option (List SqT)) : Kq := .pr (fun v w => ∃ u, v = .tuple #[u, .bool o.isSome] ∧ (rowP o).holds u w) (fun _ _ _ k h => by obtain ⟨u, e, h⟩ := h; exact ⟨u, e, Kq.keeps k h⟩)
theorem RetPre.tup {w w' : World} {o : Option (List SqT)} {e : Ending} (h : RetPre w o e w') : ∃ v, e = .returned v ∧ Keeps w w' ∧ (tupP o).holds v w' := by
 obtain ⟨v, b, rfl, hs, h0, h1, k⟩ := h
 refine ⟨_, rfl, k, v, ?_, hs, fun ps e => ?_⟩
 ·cases b
  ·rw [h0 rfl]; rfl
  ·obtain ⟨ps, e, _⟩ := h1 rfl
   rw [e]; rfl
 ·cases b
  ·rw [h0 rfl] at e; cases e
  ·obtain ⟨ps', e', h⟩ := h1 rfl
   rw [e] at e'
   cases e'
   exact h
theorem RetPre.ofRow {w w' : World} {o : Option (List SqT)} {v : Value} (h : (rowP o).holds v w') (k : Keeps w w') : RetPre w o (.returned (.tuple #[v, .bool o.isSome])) w' := by
 refine ⟨v, _, rfl, h.1, fun e => ?_, fun e => ?_, k⟩
 ·cases o with
  | none => rfl
  | some ps => cases e
 ·cases o with
  | none => cases e
  | some ps => exact ⟨ps, rfl, h.2 ps rfl⟩
open scoped Classical in
theorem cont_in (ss : List ByteArray) (x : ByteArray) (v : Value) (w : World) (hv : Strs w v ss) : Calls Tryz.prog 61 #[v, .string x] w fun e w' => e = .returned (.bool (inS ss x)) ∧ w = w' := by
 refine (containsS_any ss x v w hv).mono ?_
 rintro e w' ⟨rfl, rfl⟩
 refine ⟨?_, rfl⟩
 congr 2
 rw [Bool.eq_iff_iff, decide_eq_true_eq, inS_iff]
section
variable {md : Region.Mode} {ops : Array Oper} {Q : Exit → Act → World → Prop} {nt : Nat} {ins : List Nat} {kd : Nat → Kq} {w0 : World} {o : Oper}
theorem enters_cont : Enters 61 := fun _ _ => by kernel_rfl
theorem kCont (s s' : Nat) (x : List ByteArray) (y : ByteArray) (ho : o.op = .call { callee := .value (.func 61), args := #[.tmp s, .tmp s'], argTypes := #[24, 9] }) (hg : o.guard = none) (h : availK md ops ins o s = true) (h' : availK md ops ins o s' = true) (hs : kd s = .strs x) (hs' : kd s' = .val (.string y)) (hk : ∀ d, o.dst = some d → kd d = .val (.bool (inS x y))) : StQ md ops Q nt ins kd w0 o :=
 kCall 61 _ _ ho enters_cont hg (fun a w1 _ hv => by
  have g1 := hv s h
  have g2 := hv s' h'
  rw [hs] at g1
  rw [hs'] at g2
  have g1 : StrsP w1 (a.eval (.tmp s)) x := g1
  have g2 : a.eval (.tmp s') = .string y := g2
  rw [map2, g2]
  refine (cont_in x y _ w1 g1.1).mono ?_
  rintro e w2 ⟨rfl, rfl⟩
  exact ⟨_, rfl, Keeps.refl _, fun d hd => by rw [hk d hd]; exact rfl⟩)
theorem enters_isTx : Enters 65 := fun _ _ => by kernel_rfl
theorem kIsTx (s : Nat) (y : ByteArray) (ho : o.op = .call { callee := .value (.func 65), args := #[.tmp s], argTypes := #[9] }) (hg : o.guard = none) (h : availK md ops ins o s = true) (hs : kd s = .val (.string y)) (hl : y.size ≤ 10000000) (hk : ∀ d, o.dst = some d → kd d = .val (.bool (isTx y))) : StQ md ops Q nt ins kd w0 o :=
 kCall 65 _ _ ho enters_isTx hg (fun a w1 _ hv => by
  have g2 := hv s h
  rw [hs] at g2
  have g2 : a.eval (.tmp s) = .string y := g2
  rw [map1, g2]
  refine (isTextA y w1 hl).mono ?_
  rintro e w2 ⟨rfl, k2⟩
  exact ⟨_, rfl, k2, fun d hd => by rw [hk d hd]; exact rfl⟩)
theorem enters_prsd : Enters 67 := fun _ _ => by kernel_rfl
theorem kParsed (s : Nat) (y : ByteArray) (t : Fm) (ho : o.op = .call { callee := .value (.func 67), args := #[.tmp s], argTypes := #[9] }) (hg : o.guard = none) (h : availK md ops ins o s = true) (hs : kd s = .val (.string y)) (hy : IsTx y t) (hk : ∀ d, o.dst = some d → kd d = .nd t) : StQ md ops Q nt ins kd w0 o :=
 kCall 67 _ _ ho enters_prsd hg (fun a w1 _ hv => by
  have g2 := hv s h
  rw [hs] at g2
  have g2 : a.eval (.tmp s) = .string y := g2
  rw [map1, g2]
  refine (parsedT t y w1 hy).mono ?_
  rintro e w2 ⟨v, rfl, hv, k2⟩
  exact ⟨_, rfl, k2, fun d hd => by rw [hk d hd]; exact hv.nds (by have := hy.2.2; omega)⟩)
theorem map4' {f : Operand → Value} (x y z u : Operand) : (#[x, y, z, u] : Array Operand).map f = #[f x, f y, f z, f u] := by simp
theorem enters_leftP : Enters 66 := fun _ _ => by kernel_rfl
theorem kLeftP (s1 s2 s3 s4 : Nat) (lg : ByteArray) (r : Int) (main : ByteArray) (t : Fm) (ss tt : List ByteArray) (ho : o.op = .call { callee := .value (.func 66), args := #[.tmp s1, .tmp s2, .tmp s3, .tmp s4], argTypes := #[9, 2, 26, 95] }) (hg : o.guard = none) (h1 : availK md ops ins o s1 = true) (h2 : availK md ops ins o s2 = true) (h3 : availK md ops ins o s3 = true) (h4 : availK md ops ins o s4 = true)
  (e1 : kd s1 = .val (.string lg)) (e2 : kd s2 = .val (.int .i64 r)) (e3 : kd s3 = .sq ss tt) (e4 : kd s4 = .nd t) (hlg : lg ∈ names7) (hm : IsTx main t) (hs : Side ss) (ht : Side tt) (hl : ss.length ≤ 1000 ∧ tt.length ≤ 1000) (hk : ∀ d, o.dst = some d → kd d = tupP (lpR (lgN lg) r.toNat ss tt main)) : StQ md ops Q nt ins kd w0 o :=
 kCall 66 _ _ ho enters_leftP hg (fun a w1 _ hv => by
  have g1 := hv s1 h1
  have g2 := hv s2 h2
  have g3 := hv s3 h3
  have g4 := hv s4 h4
  rw [e1] at g1
  rw [e2] at g2
  rw [e3] at g3
  rw [e4] at g4
  have g1 : a.eval (.tmp s1) = .string lg := g1
  have g2 : a.eval (.tmp s2) = .int .i64 r := g2
  have g4 : Nds w1 (a.eval (.tmp s4)) t.enc := g4
  obtain ⟨x, y, g3, hx, hy⟩ := g3
  rw [map4', g1, g2, g3]
  refine (leftPremises_any lg r main t hlg hm ss tt hs ht x y _ w1 hx hy g4 hl).mono ?_
  rintro e w2 hR
  obtain ⟨v, rfl, k2, h⟩ := hR.tup
  exact ⟨v, rfl, k2, fun d hd => by rw [hk d hd]; exact h⟩)
theorem enters_rightP : Enters 68 := fun _ _ => by kernel_rfl
theorem kRightP (s1 s2 s3 s4 : Nat) (lg : ByteArray) (r : Int) (main : ByteArray) (t : Fm) (ss tt : List ByteArray) (ho : o.op = .call { callee := .value (.func 68), args := #[.tmp s1, .tmp s2, .tmp s3, .tmp s4], argTypes := #[9, 2, 26, 95] }) (hg : o.guard = none) (h1 : availK md ops ins o s1 = true) (h2 : availK md ops ins o s2 = true) (h3 : availK md ops ins o s3 = true) (h4 : availK md ops ins o s4 = true)
  (e1 : kd s1 = .val (.string lg)) (e2 : kd s2 = .val (.int .i64 r)) (e3 : kd s3 = .sq ss tt) (e4 : kd s4 = .nd t) (hlg : lg ∈ names7) (hm : IsTx main t) (hs : Side ss) (ht : Side tt) (hl : ss.length ≤ 1000 ∧ tt.length ≤ 1000) (hk : ∀ d, o.dst = some d → kd d = tupP (rpR (lgN lg) r.toNat ss tt main)) : StQ md ops Q nt ins kd w0 o :=
 kCall 68 _ _ ho enters_rightP hg (fun a w1 _ hv => by
  have g1 := hv s1 h1
  have g2 := hv s2 h2
  have g3 := hv s3 h3
  have g4 := hv s4 h4
  rw [e1] at g1
  rw [e2] at g2
  rw [e3] at g3
  rw [e4] at g4
  have g1 : a.eval (.tmp s1) = .string lg := g1
  have g2 : a.eval (.tmp s2) = .int .i64 r := g2
  have g4 : Nds w1 (a.eval (.tmp s4)) t.enc := g4
  obtain ⟨x, y, g3, hx, hy⟩ := g3
  rw [map4', g1, g2, g3]
  refine (rightPremises_any lg r main t hlg hm ss tt hs ht x y _ w1 hx hy g4 hl).mono ?_
  rintro e w2 hR
  obtain ⟨v, rfl, k2, h⟩ := hR.tup
  exact ⟨v, rfl, k2, fun d hd => by rw [hk d hd]; exact h⟩)
theorem run_ext0 (u v : Value) (w : World) : (Instr.extract (.tuple #[u, v]) 0).run Tryz.prog w = .ok u w := by kernel_rfl
theorem run_ext1 (u v : Value) (w : World) : (Instr.extract (.tuple #[u, v]) 1).run Tryz.prog w = .ok v w := by kernel_rfl
theorem kExt0 (s : Nat) (c : Option (List SqT)) (ho : o.op = .extract (.tmp s) 0) (hg : o.guard = none) (h : availK md ops ins o s = true) (hs : kd s = tupP c) (hk : ∀ d, o.dst = some d → kd d = rowP c) : StQ md ops Q nt ins kd w0 o :=
 StepK.plain hg fun a w K hsa hJ hins hdep hK => by
  have hv := getK h hins hdep
  change (kd s).holds _ w at hv
  rw [hs] at hv
  obtain ⟨u, e, hu⟩ := (hv : ∃ u, a.eval (.tmp s) = .tuple #[u, .bool c.isSome] ∧ (rowP c).holds u w)
  unfold Oper.wp execOp
  simp only [ho, e, Sem.run_bind, run_ext0 u (.bool c.isSome), Result.andThen_ok, Sem.run_pure]
  exact hK _ _ (Keeps.refl w) (fun d hd => by show (kd d).holds _ w; rw [hk d hd]; exact hu)
theorem kExt1 (s : Nat) (c : Option (List SqT)) (ho : o.op = .extract (.tmp s) 1) (hg : o.guard = none) (h : availK md ops ins o s = true) (hs : kd s = tupP c) (hk : ∀ d, o.dst = some d → kd d = .val (.bool c.isSome)) : StQ md ops Q nt ins kd w0 o :=
 StepK.plain hg fun a w K hsa hJ hins hdep hK => by
  have hv := getK h hins hdep
  change (kd s).holds _ w at hv
  rw [hs] at hv
  obtain ⟨u, e, hu⟩ := (hv : ∃ u, a.eval (.tmp s) = .tuple #[u, .bool c.isSome] ∧ (rowP c).holds u w)
  unfold Oper.wp execOp
  simp only [ho, e, Sem.run_bind, run_ext1 u (.bool c.isSome), Result.andThen_ok, Sem.run_pure]
  exact hK _ _ (Keeps.refl w) (fun d hd => by show (kd d).holds _ w; rw [hk d hd]; exact rfl)
end
set_option maxRecDepth 100000 in
set_option maxHeartbeats 8000000 in
theorem premisesOf_any (lg : ByteArray) (r : Int) (main : ByteArray) (hlg : lg ∈ names7) (ss tt : List ByteArray) (hs : Side ss) (ht : Side tt) (a b : Value) (w : World) (ha : StrsP w a ss) (hb : StrsP w b tt) (hl : ss.length ≤ 1000 ∧ tt.length ≤ 1000) (hms : main.size ≤ 10000000) :
  Calls Tryz.prog 27 #[.string lg, .int .i64 r, .agg #[a, b], .string main] w (RetPre w (preR (lgN lg) r.toNat ss tt main)) := by
 obtain ⟨p, n, c, rfl⟩ := ha.sh
 obtain ⟨q, m, d, rfl⟩ := hb.sh
 have k1 := (Keeps.refl w).alloc (.cells #[.slice p n c, .slice q m d] 26)
 have b1 := BoxG.made w 26 [.slice p n c, .slice q m d] (by simp) (by simp)
 have HB1 := hid b1
 have HA := hid (ha.keeps k1)
 have HC := hid (hb.keeps k1)
 have HS := hid hs
 have HT := hid ht
 have HLG := hid hlg
 obtain ⟨l1, l2⟩ := hl
 clear ha hb b1 hs ht hlg
 go_enter Tryz.func27, Tryz.ntmps27
 go_upto_region 1 with fail
 generalize w.alloc (.cells #[.slice p n c, .slice q m d] 26) = w1 at *
 go_cut [10, 11] from 14 to 21 (fun v10 v11 wx => v10 = .bool (inS ss main) ∧ v11 = .bool (inS tt main) ∧ Keeps w1 wx)
 case first =>
  have kd := (Keeps.refl w1).drew
  have c0 := (HB1.out.keeps kd).cell 0 (by simp)
  have c1 := (HB1.out.keeps kd).cell 1 (by simp)
  simp only [List.getElem_cons_zero, List.getElem_cons_succ] at c0 c1
  have h0 := HA.out.keeps kd
  have h1 := HC.out.keeps kd
  refine wp_region_kinds (L := 10) (nt := 92) (ins := [3, 6]) (ds := [14, 15, 16, 17, 18, 19, 20, 21, 10, 11]) (by kernel_rfl) (by kernel_rfl) (fun s v w' => ((fun s => if s = 3 then .val (.string main) else if s = 6 then .val (.pointer (some ⟨w.heap.size, 0, none⟩)) else if s = 10 then .val (.bool (inS ss main)) else if s = 11 then .val (.bool (inS tt main)) else if s = 14 then .val (.pointer (some ⟨w.heap.size, 0, none⟩)) else if s = 15 then .strs (ss) else if s = 16 then .val (.string main) else if s = 17 then .val (.bool (inS ss main)) else if s = 18 then .val (.pointer (some ⟨w.heap.size, 1, none⟩)) else if s = 19 then .strs (tt) else if s = 20 then .val (.string main) else if s = 21 then .val (.bool (inS tt main)) else .any : Nat → Kq) s).holds v w') (fun _ _ _ _ h hv => Kq.keeps h hv) ?_ (by kernel_rfl) rfl ?_ ?_
  ·refine lK (kPure1 6 (.pointer (some ⟨w.heap.size, 0, none⟩)) (.pointer (some ⟨w.heap.size, 0, none⟩)) rfl (by kernel_rfl) rfl (fun a w1 h1 => by unfold execOp; simp only [h1, Sem.run_bind, run_fieldQ0 w.heap.size]; rfl) (fun d hd => by cases hd; rfl)) ?_
   refine lK (kLoadS 14 _ _ _ rfl rfl (by kernel_rfl) rfl c0 h0 (fun d hd => by cases hd; rfl)) ?_
   refine lK (kMove 3 (.inl rfl) rfl (by kernel_rfl) (fun d hd => by cases hd; rfl)) ?_
   refine lK (kCont 15 16 (ss) main rfl rfl (by kernel_rfl) (by kernel_rfl) rfl rfl (fun d hd => by cases hd; rfl)) ?_
   refine lK (kPure1 6 (.pointer (some ⟨w.heap.size, 0, none⟩)) (.pointer (some ⟨w.heap.size, 1, none⟩)) rfl (by kernel_rfl) rfl (fun a w1 h1 => by unfold execOp; simp only [h1, Sem.run_bind, run_fieldQ1 w.heap.size]; rfl) (fun d hd => by cases hd; rfl)) ?_
   refine lK (kLoadS 18 _ _ _ rfl rfl (by kernel_rfl) rfl c1 h1 (fun d hd => by cases hd; rfl)) ?_
   refine lK (kMove 3 (.inl rfl) rfl (by kernel_rfl) (fun d hd => by cases hd; rfl)) ?_
   refine lK (kCont 19 20 (tt) main rfl rfl (by kernel_rfl) (by kernel_rfl) rfl rfl (fun d hd => by cases hd; rfl)) ?_
   refine lK (kMove 17 (.inr rfl) rfl (by kernel_rfl) (fun d hd => by cases hd; rfl)) ?_
   refine lK (kMove 21 (.inr rfl) rfl (by kernel_rfl) (fun d hd => by cases hd; rfl)) True.intro
  ·intro s hs
   have : s = 3 ∨ s = 6 := by simpa using hs
   rcases this with rfl | rfl
   ·exact rfl
   ·exact rfl
  ·intro f w' hk hv
   have g10 : f 10 = .bool (inS ss main) := hv 10 (by decide)
   have g11 : f 11 = .bool (inS tt main) := hv 11 (by decide)
   clear hv
   generalize inS ss main = o1 at *
   generalize inS tt main = o2 at *
   simp only [putAll, Act.put, List.setIfInBounds_toArray, List.set_cons_zero, List.set_cons_succ, g10, g11]
   clear g10 g11
   go_wp2_with fail
   go_meet
   exact ⟨rfl, rfl, kd.trans hk⟩
 case rest =>
  obtain ⟨rfl, rfl, kc⟩ := hcut
  by_cases e1 : r = 1
  ·subst e1
   have HP : Hid (preR (lgN lg) (1 : Int).toNat ss tt main = if (inS ss main && inS tt main) = true then some [] else none) := hid rfl
   generalize inS ss main = o1 at *
   generalize inS tt main = o2 at *
   cases o1
   ·go_wp2_with fail
    refine bodyPost_ret (v := .tuple #[.slice none 0 0, .bool false]) (by simp [results, Tryz.results27, go_sem]) rfl ?_
    exact RetPre.mk (ps := []) HP.out (fun e => rfl) (SqL.none0 _ _) (k1.trans kc)
   ·go_wp2_with fail
    refine bodyPost_ret (v := .tuple #[.slice none 0 0, .bool o2]) (by simp [results, Tryz.results27, go_sem]) rfl ?_
    exact RetPre.mk (ps := []) HP.out (fun e => rfl) (SqL.none0 _ _) (k1.trans kc)
  by_cases e2 : r = 2
  ·subst e2
   have HS1 := hid (fun wz (kz : Keeps w1 wz) => cont_in ss ⟨#[70]⟩ _ wz (HA.out.keeps kz).1)
   have HP : Hid (preR (lgN lg) (2 : Int).toNat ss tt main = if (decide (main = ⟨#[]⟩) && inS ss (txS .fls)) = true then some [] else none) := hid rfl
   rw [tx_fls] at HP
   generalize inS ss ⟨#[70]⟩ = o1 at *
   have z0 := (HB1.out.keeps kc).cell 0 (by simp)
   simp only [List.getElem_cons_zero] at z0
   generalize inS ss main = o8 at *
   generalize inS tt main = o9 at *
   by_cases hm : main = ⟨#[]⟩
   ·subst hm
    rw [decide_eq_true rfl] at HP
    go_wp2_with fail
    refine (HS1.out _ kc).mono ?_; rintro e w' ⟨rfl, rfl⟩
    go_wp2_with fail
    refine bodyPost_ret (v := .tuple #[.slice none 0 0, .bool o1]) (by simp [results, Tryz.results27, go_sem]) rfl ?_
    exact RetPre.mk (ps := []) HP.out (fun e => rfl) (SqL.none0 _ _) (k1.trans kc)
   ·have hm2 := toL_ne hm
    rw [decide_eq_false hm] at HP
    clear hm
    go_wp2_with fail
    refine bodyPost_ret (v := .tuple #[.slice none 0 0, .bool false]) (by simp [results, Tryz.results27, go_sem]) rfl ?_
    exact RetPre.mk (ps := []) HP.out (fun e => rfl) (SqL.none0 _ _) (k1.trans kc)
  by_cases e12 : r = 12
  ·subst e12
   have HMP := hid (fun wz (kz : Keeps w1 wz) => modalPremise_any lg ⟨#[]⟩ ss tt HS.out HT.out _ _ wz (HA.out.keeps kz) (HC.out.keeps kz) ⟨by omega, by omega⟩ (.inl rfl))
   rw [show mdQ (lgN lg) ss tt ⟨#[]⟩ = (mopL (lgN lg) ss ⟨#[]⟩, mopR (lgN lg) tt ⟨#[]⟩) by unfold mdQ; rw [if_pos rfl]] at HMP
   have HP : Hid (preR (lgN lg) (12 : Int).toNat ss tt main = if (decide (main = ⟨#[]⟩) && decide (lgN lg = 1)) = true then some [(mopL (lgN lg) ss main, mopR (lgN lg) tt main)] else none) := hid rfl
   have eD := nmD lg
   have z0 := (HB1.out.keeps kc).cell 0 (by simp)
   have z1 := (HB1.out.keeps kc).cell 1 (by simp)
   simp only [List.getElem_cons_zero, List.getElem_cons_succ] at z0 z1
   generalize inS ss main = o8 at *
   generalize inS tt main = o9 at *
   go_wp2_with fail
   refine (HMP.out _ kc).mono ?_; rintro e w2 ⟨u2, v2, rfl, hu2, hv2, k2⟩
   obtain ⟨pu, nu, cu, rfl⟩ := hu2.sh
   obtain ⟨pv, nv, cv, rfl⟩ := hv2.sh
   have hlit := SqL.lit w2 [(.slice pu nu cu, .slice pv nv cv)] [(mopL (lgN lg) ss ⟨#[]⟩, mopR (lgN lg) tt ⟨#[]⟩)] rfl (by simp) (fun i h1 h2 => by
    obtain rfl : i = 0 := by simp at h1; omega
    exact ⟨hu2, hv2⟩)
   have HLI := hid hlit
   have KK := (k1.trans kc).trans (k2.alloc (.cells #[.slice pu nu cu, .slice pv nv cv] 26))
   clear hu2 hv2 hlit z0 z1 HMP
   by_cases hm : main = ⟨#[]⟩
   ·subst hm
    rw [decide_eq_true rfl, Bool.true_and, ← eD] at HP
    generalize hbD : (lg.toList == [68]) = bD at *
    clear eD
    go_wp2_with fail
    refine bodyPost_ret (v := .tuple #[.slice (some ⟨w2.heap.size, 0, none⟩) 1 1, .bool bD]) (by simp [results, Tryz.results27, go_sem]) rfl ?_
    exact RetPre.mk HP.out (fun e => rfl) HLI.out KK
   ·have hm2 := toL_ne hm
    rw [decide_eq_false hm] at HP
    clear hm eD
    go_wp2_with fail
    refine bodyPost_ret (v := .tuple #[.slice (some ⟨w2.heap.size, 0, none⟩) 1 1, .bool false]) (by simp [results, Tryz.results27, go_sem]) rfl ?_
    exact RetPre.mk (ps' := []) (by rw [HP.out]; rfl) (fun e => by cases e) HLI.out KK
  by_cases e14 : r = 14
  ·subst e14
   have HP : Hid (preR (lgN lg) (14 : Int).toNat ss tt main = if isTx main = true then some [(ss, insS tt main), (insS ss main, tt)] else none) := hid rfl
   generalize inS ss main = o8 at *
   generalize inS tt main = o9 at *
   go_upto_region 10 with fail
   have kd := kc.trans (Keeps.refl wc).drew
   have c0 := (HB1.out.keeps kd).cell 0 (by simp)
   have c1 := (HB1.out.keeps kd).cell 1 (by simp)
   simp only [List.getElem_cons_zero, List.getElem_cons_succ] at c0 c1
   have h0 := HA.out.keeps kd
   have h1 := HC.out.keeps kd
   refine wp_region_kinds (L := 21) (nt := 92) (ins := [3, 6]) (ds := [52, 53, 54, 55, 56, 57, 58, 59, 60, 61, 62, 63, 64, 65, 66, 67, 68, 69, 70, 8, 9]) (by kernel_rfl) (by kernel_rfl) (fun s v w' => ((fun s => if s = 3 then .val (.string main) else if s = 6 then .val (.pointer (some ⟨w.heap.size, 0, none⟩)) else if s = 8 then .sqs [(ss, insS tt (main)), (insS ss (main), tt)] else if s = 9 then .val (.bool (isTx main)) else if s = 52 then .val (.pointer (some ⟨w.heap.size, 0, none⟩)) else if s = 53 then .strs (ss) else if s = 54 then .val (.pointer (some ⟨w.heap.size, 1, none⟩)) else if s = 55 then .strs (tt) else if s = 56 then .val (.string main) else if s = 57 then .strs [main] else if s = 58 then .strs (insS tt (main)) else if s = 59 then .sq (ss) (insS tt (main)) else if s = 60 then .val (.pointer (some ⟨w.heap.size, 0, none⟩)) else if s = 61 then .strs (ss) else if s = 62 then .val (.string main) else if s = 63 then .strs [main] else if s = 64 then .strs (insS ss (main)) else if s = 65 then .val (.pointer (some ⟨w.heap.size, 1, none⟩)) else if s = 66 then .strs (tt) else if s = 67 then .sq (insS ss (main)) (tt) else if s = 68 then .sqs [(ss, insS tt (main)), (insS ss (main), tt)] else if s = 69 then .val (.string main) else if s = 70 then .val (.bool (isTx main)) else .any : Nat → Kq) s).holds v w') (fun _ _ _ _ h hv => Kq.keeps h hv) ?_ (by kernel_rfl) rfl ?_ ?_
   ·refine lK (kPure1 6 (.pointer (some ⟨w.heap.size, 0, none⟩)) (.pointer (some ⟨w.heap.size, 0, none⟩)) rfl (by kernel_rfl) rfl (fun a w1 h1 => by unfold execOp; simp only [h1, Sem.run_bind, run_fieldQ0 w.heap.size]; rfl) (fun d hd => by cases hd; rfl)) ?_
    refine lK (kLoadS 52 _ _ _ rfl rfl (by kernel_rfl) rfl c0 h0 (fun d hd => by cases hd; rfl)) ?_
    refine lK (kPure1 6 (.pointer (some ⟨w.heap.size, 0, none⟩)) (.pointer (some ⟨w.heap.size, 1, none⟩)) rfl (by kernel_rfl) rfl (fun a w1 h1 => by unfold execOp; simp only [h1, Sem.run_bind, run_fieldQ1 w.heap.size]; rfl) (fun d hd => by cases hd; rfl)) ?_
    refine lK (kLoadS 54 _ _ _ rfl rfl (by kernel_rfl) rfl c1 h1 (fun d hd => by cases hd; rfl)) ?_
    refine lK (kMove 3 (.inl rfl) rfl (by kernel_rfl) (fun d hd => by cases hd; rfl)) ?_
    refine lK (kOne 56 (main) rfl rfl (by kernel_rfl) rfl (fun d hd => by cases hd; rfl)) ?_
    refine lK (kPut1 55 57 (tt) (main) rfl rfl (by kernel_rfl) (by kernel_rfl) rfl rfl (by omega) HT.out.2 (fun d hd => by cases hd; rfl)) ?_
    refine lK (kBuild 53 58 (ss) (insS tt (main)) rfl rfl (by kernel_rfl) (by kernel_rfl) rfl rfl (fun d hd => by cases hd; rfl)) ?_
    refine lK (kPure1 6 (.pointer (some ⟨w.heap.size, 0, none⟩)) (.pointer (some ⟨w.heap.size, 0, none⟩)) rfl (by kernel_rfl) rfl (fun a w1 h1 => by unfold execOp; simp only [h1, Sem.run_bind, run_fieldQ0 w.heap.size]; rfl) (fun d hd => by cases hd; rfl)) ?_
    refine lK (kLoadS 60 _ _ _ rfl rfl (by kernel_rfl) rfl c0 h0 (fun d hd => by cases hd; rfl)) ?_
    refine lK (kMove 3 (.inl rfl) rfl (by kernel_rfl) (fun d hd => by cases hd; rfl)) ?_
    refine lK (kOne 62 (main) rfl rfl (by kernel_rfl) rfl (fun d hd => by cases hd; rfl)) ?_
    refine lK (kPut1 61 63 (ss) (main) rfl rfl (by kernel_rfl) (by kernel_rfl) rfl rfl (by omega) HS.out.2 (fun d hd => by cases hd; rfl)) ?_
    refine lK (kPure1 6 (.pointer (some ⟨w.heap.size, 0, none⟩)) (.pointer (some ⟨w.heap.size, 1, none⟩)) rfl (by kernel_rfl) rfl (fun a w1 h1 => by unfold execOp; simp only [h1, Sem.run_bind, run_fieldQ1 w.heap.size]; rfl) (fun d hd => by cases hd; rfl)) ?_
    refine lK (kLoadS 65 _ _ _ rfl rfl (by kernel_rfl) rfl c1 h1 (fun d hd => by cases hd; rfl)) ?_
    refine lK (kBuild 64 66 (insS ss (main)) (tt) rfl rfl (by kernel_rfl) (by kernel_rfl) rfl rfl (fun d hd => by cases hd; rfl)) ?_
    refine lK (kRow2 59 67 (ss) (insS tt (main)) (insS ss (main)) (tt) rfl rfl (by kernel_rfl) (by kernel_rfl) rfl rfl (fun d hd => by cases hd; rfl)) ?_
    refine lK (kMove 3 (.inl rfl) rfl (by kernel_rfl) (fun d hd => by cases hd; rfl)) ?_
    refine lK (kIsTx 69 main rfl rfl (by kernel_rfl) rfl hms (fun d hd => by cases hd; rfl)) ?_
    refine lK (kMove 68 (.inr rfl) rfl (by kernel_rfl) (fun d hd => by cases hd; rfl)) ?_
    refine lK (kMove 70 (.inr rfl) rfl (by kernel_rfl) (fun d hd => by cases hd; rfl)) True.intro
   ·intro s hs
    have : s = 3 ∨ s = 6 := by simpa using hs
    rcases this with rfl | rfl
    ·exact rfl
    ·exact rfl
   ·intro f w' hk hv
    have g8 : SqL w' (f 8) [(ss, insS tt (main)), (insS ss (main), tt)] := hv 8 (by decide)
    have g9 : f 9 = .bool (isTx main) := hv 9 (by decide)
    obtain ⟨p6, c6, e6, _⟩ := g8.shape
    rw [e6] at g8
    have G8 := hid g8
    clear g8 hv
    generalize isTx main = ok at *
    simp only [putAll, Act.put, List.setIfInBounds_toArray, List.set_cons_zero, List.set_cons_succ, e6, g9]
    clear g9
    go_wp2_with fail
    refine bodyPost_ret (v := .tuple #[.slice p6 2 c6, .bool ok]) (by simp [results, Tryz.results27, go_sem]) rfl ?_
    exact RetPre.mk HP.out (fun e => rfl) G8.out ((k1.trans kd).trans hk)
  have HSP := hid (preR_split (lgN lg) r.toNat ss tt main (fun h => by
   have htx : ∃ t, IsTx main t := by rcases h with h | h; exact HS.out.1 _ h; exact HT.out.1 _ h
   intro e
   subst e
   obtain ⟨t, ht⟩ := htx
   have h1 := ht.2.1
   have h2 := body_pos t
   rw [← h1] at h2
   exact absurd h2 (by decide)) (by omega) (by omega) (by omega) (by omega))
  have HI1 := hid (fun (h : inS ss main = true) => side_tx HS.out (inS_iff.1 h))
  have HI2 := hid (fun (h : inS tt main = true) => side_tx HT.out (inS_iff.1 h))
  have q1 : (r == 1) = false := by simpa using e1
  have q2 : (r == 2) = false := by simpa using e2
  have q12 : (r == 12) = false := by simpa using e12
  have q14 : (r == 14) = false := by simpa using e14
  generalize inS ss main = o1 at *
  generalize inS tt main = o2 at *
  generalize preR (lgN lg) r.toNat ss tt main = PR at *
  clear e1 e2 e12 e14
  cases o1
  ·cases o2
   ·go_wp2_with fail
    refine bodyPost_ret (v := .tuple #[.slice none 0 0, .bool false]) (by simp [results, Tryz.results27, go_sem]) rfl ?_
    rw [HSP.out]
    exact RetPre.mk (ps := []) (b := false) (ps' := []) rfl (fun e => by cases e) (SqL.none0 _ _) (k1.trans kc)
   ·have HTT := hid (HI2.out (by trivial))
    generalize txF main = t at *
    go_upto_region 16 with fail
    have kd := kc.trans (Keeps.refl wc).drew
    have hbx := HB1.out.keeps kd
    have h0 := HA.out.keeps kd
    have h1 := HC.out.keeps kd
    refine wp_region_kinds (L := 10) (nt := 92) (ins := [0, 1, 3, 6]) (ds := [84, 85, 86, 87, 88, 89, 90, 91, 8, 9]) (by kernel_rfl) (by kernel_rfl) (fun s v w' => ((fun s => if s = 0 then .val (.string lg) else if s = 1 then .val (.int .i64 r) else if s = 3 then .val (.string main) else if s = 6 then .val (.pointer (some ⟨w.heap.size, 0, none⟩)) else if s = 8 then rowP (rpR (lgN lg) r.toNat ss tt main) else if s = 9 then .val (.bool (rpR (lgN lg) r.toNat ss tt main).isSome) else if s = 84 then .val (.string lg) else if s = 85 then .val (.int .i64 r) else if s = 86 then .sq (ss) (tt) else if s = 87 then .val (.string main) else if s = 88 then .nd t else if s = 89 then tupP (rpR (lgN lg) r.toNat ss tt main) else if s = 90 then rowP (rpR (lgN lg) r.toNat ss tt main) else if s = 91 then .val (.bool (rpR (lgN lg) r.toNat ss tt main).isSome) else .any : Nat → Kq) s).holds v w') (fun _ _ _ _ h hv => Kq.keeps h hv) ?_ (by kernel_rfl) rfl ?_ ?_
    ·refine lK (kMove 0 (.inl rfl) rfl (by kernel_rfl) (fun d hd => by cases hd; rfl)) ?_
     refine lK (kMove 1 (.inl rfl) rfl (by kernel_rfl) (fun d hd => by cases hd; rfl)) ?_
     refine lK (kLoadQ 6 (w.heap.size) _ _ (ss) (tt) rfl rfl (by kernel_rfl) rfl hbx h0 h1 (fun d hd => by cases hd; rfl)) ?_
     refine lK (kMove 3 (.inl rfl) rfl (by kernel_rfl) (fun d hd => by cases hd; rfl)) ?_
     refine lK (kParsed 87 main t rfl rfl (by kernel_rfl) rfl HTT.out (fun d hd => by cases hd; rfl)) ?_
     refine lK (kRightP 84 85 86 88 lg r main t ss tt rfl rfl (by kernel_rfl) (by kernel_rfl) (by kernel_rfl) (by kernel_rfl) rfl rfl rfl rfl HLG.out HTT.out HS.out HT.out ⟨by omega, by omega⟩ (fun d hd => by cases hd; rfl)) ?_
     refine lK (kExt0 89 (rpR (lgN lg) r.toNat ss tt main) rfl rfl (by kernel_rfl) rfl (fun d hd => by cases hd; rfl)) ?_
     refine lK (kExt1 89 (rpR (lgN lg) r.toNat ss tt main) rfl rfl (by kernel_rfl) rfl (fun d hd => by cases hd; rfl)) ?_
     refine lK (kMove 90 (.inr rfl) rfl (by kernel_rfl) (fun d hd => by cases hd; rfl)) ?_
     refine lK (kMove 91 (.inr rfl) rfl (by kernel_rfl) (fun d hd => by cases hd; rfl)) True.intro
    ·intro s hs
     have : s = 0 ∨ s = 1 ∨ s = 3 ∨ s = 6 := by simpa using hs
     rcases this with rfl | rfl | rfl | rfl
     ·exact rfl
     ·exact rfl
     ·exact rfl
     ·exact rfl
    ·intro f w' hk hv
     have g8 : (rowP (rpR (lgN lg) r.toNat ss tt main)).holds (f 8) w' := hv 8 (by decide)
     have g9 : f 9 = .bool (rpR (lgN lg) r.toNat ss tt main).isSome := hv 9 (by decide)
     have HSP2 : Hid (PR = rpR (lgN lg) r.toNat ss tt main) := hid HSP.out
     clear hv HSP
     generalize rpR (lgN lg) r.toNat ss tt main = oR at *
     obtain ⟨p6, n6, c6, e6⟩ := g8.1
     have G8 := hid g8
     clear g8
     rw [e6] at G8
     have HFIN := hid (fun (h : (rowP oR).holds (.slice p6 n6 c6) w') (k : Keeps w w') => RetPre.ofRow h k)
     generalize oR.isSome = ok at *
     simp only [putAll, Act.put, List.setIfInBounds_toArray, List.set_cons_zero, List.set_cons_succ, e6, g9]
     clear g9
     go_wp2_with fail
     refine bodyPost_ret (v := .tuple #[.slice p6 n6 c6, .bool ok]) (by simp [results, Tryz.results27, go_sem]) rfl ?_
     rw [HSP2.out]
     exact HFIN.out G8.out ((k1.trans kd).trans hk)
  ·have HTT := hid (HI1.out (by trivial))
   go_upto_region 12 with fail
   go_cut [12, 13] from 73 to 80 (fun v12 v13 wx => (rowP (lpR (lgN lg) r.toNat ss tt main)).holds v12 wx ∧ v13 = .bool (lpR (lgN lg) r.toNat ss tt main).isSome ∧ Keeps w1 wx)
   case first =>
    generalize txF main = t at *
    have kd := kc.trans (Keeps.refl wc).drew
    have hbx := HB1.out.keeps kd
    have h0 := HA.out.keeps kd
    have h1 := HC.out.keeps kd
    refine wp_region_kinds (L := 11) (nt := 92) (ins := [0, 1, 3, 6]) (ds := [73, 74, 75, 76, 77, 78, 72, 79, 80, 12, 13]) (by kernel_rfl) (by kernel_rfl) (fun s v w' => ((fun s => if s = 0 then .val (.string lg) else if s = 1 then .val (.int .i64 r) else if s = 3 then .val (.string main) else if s = 6 then .val (.pointer (some ⟨w.heap.size, 0, none⟩)) else if s = 12 then rowP (lpR (lgN lg) r.toNat ss tt main) else if s = 13 then .val (.bool (lpR (lgN lg) r.toNat ss tt main).isSome) else if s = 72 then tupP (lpR (lgN lg) r.toNat ss tt main) else if s = 73 then .val (.string lg) else if s = 74 then .val (.int .i64 r) else if s = 75 then .sq (ss) (tt) else if s = 76 then .val (.string main) else if s = 77 then .nd t else if s = 78 then tupP (lpR (lgN lg) r.toNat ss tt main) else if s = 79 then rowP (lpR (lgN lg) r.toNat ss tt main) else if s = 80 then .val (.bool (lpR (lgN lg) r.toNat ss tt main).isSome) else .any : Nat → Kq) s).holds v w') (fun _ _ _ _ h hv => Kq.keeps h hv) ?_ (by kernel_rfl) rfl ?_ ?_
    ·refine lK (kMove 0 (.inl rfl) rfl (by kernel_rfl) (fun d hd => by cases hd; rfl)) ?_
     refine lK (kMove 1 (.inl rfl) rfl (by kernel_rfl) (fun d hd => by cases hd; rfl)) ?_
     refine lK (kLoadQ 6 (w.heap.size) _ _ (ss) (tt) rfl rfl (by kernel_rfl) rfl hbx h0 h1 (fun d hd => by cases hd; rfl)) ?_
     refine lK (kMove 3 (.inl rfl) rfl (by kernel_rfl) (fun d hd => by cases hd; rfl)) ?_
     refine lK (kParsed 76 main t rfl rfl (by kernel_rfl) rfl HTT.out (fun d hd => by cases hd; rfl)) ?_
     refine lK (kLeftP 73 74 75 77 lg r main t ss tt rfl rfl (by kernel_rfl) (by kernel_rfl) (by kernel_rfl) (by kernel_rfl) rfl rfl rfl rfl HLG.out HTT.out HS.out HT.out ⟨by omega, by omega⟩ (fun d hd => by cases hd; rfl)) ?_
     refine lK (kMove 78 (.inl rfl) rfl (by kernel_rfl) (fun d hd => by cases hd; rfl)) ?_
     refine lK (kExt0 72 (lpR (lgN lg) r.toNat ss tt main) rfl rfl (by kernel_rfl) rfl (fun d hd => by cases hd; rfl)) ?_
     refine lK (kExt1 72 (lpR (lgN lg) r.toNat ss tt main) rfl rfl (by kernel_rfl) rfl (fun d hd => by cases hd; rfl)) ?_
     refine lK (kMove 79 (.inr rfl) rfl (by kernel_rfl) (fun d hd => by cases hd; rfl)) ?_
     refine lK (kMove 80 (.inr rfl) rfl (by kernel_rfl) (fun d hd => by cases hd; rfl)) True.intro
    ·intro s hs
     have : s = 0 ∨ s = 1 ∨ s = 3 ∨ s = 6 := by simpa using hs
     rcases this with rfl | rfl | rfl | rfl
     ·exact rfl
     ·exact rfl
     ·exact rfl
     ·exact rfl
    ·intro f w' hk hv
     have g12 : (rowP (lpR (lgN lg) r.toNat ss tt main)).holds (f 12) w' := hv 12 (by decide)
     have g13 : f 13 = .bool (lpR (lgN lg) r.toNat ss tt main).isSome := hv 13 (by decide)
     have G12 := hid g12
     clear hv HSP g12
     generalize lpR (lgN lg) r.toNat ss tt main = oL at *
     generalize oL.isSome = ok at *
     simp only [putAll, Act.put, List.setIfInBounds_toArray, List.set_cons_zero, List.set_cons_succ, g13]
     clear g13
     go_wp2_with fail
     go_meet
     exact ⟨G12.out, rfl, kd.trans hk⟩
   case rest =>
    obtain ⟨g12, rfl, kx⟩ := hcut
    obtain ⟨p6, n6, c6, rfl⟩ := g12.1
    have G12 := hid g12
    clear g12
    cases hlp : lpR (lgN lg) r.toNat ss tt main with
    | some ps =>
     rw [hlp] at G12 HSP
     have HSP2 : Hid (PR = some ps) := hid HSP.out
     clear hlp HSP
     go_wp2_with fail
     refine bodyPost_ret (v := .tuple #[.slice p6 n6 c6, .bool true]) (by simp [results, Tryz.results27, go_sem]) rfl ?_
     rw [HSP2.out]
     exact RetPre.mk (b := true) (ps' := ps) rfl (fun e => rfl) (G12.out.2 ps rfl) (k1.trans kx)
    | none =>
     rw [hlp] at HSP
     have HSPx : Hid (PR = if o2 = true then rpR (lgN lg) r.toNat ss tt main else none) := hid HSP.out
     clear HSP hlp HTT
     have HSP := HSPx
     clear HSPx G12
     cases o2
     ·go_wp2_with fail
      refine bodyPost_ret (v := .tuple #[.slice none 0 0, .bool false]) (by simp [results, Tryz.results27, go_sem]) rfl ?_
      rw [HSP.out]
      exact RetPre.mk (ps := []) (b := false) (ps' := []) rfl (fun e => by cases e) (SqL.none0 _ _) (k1.trans kx)
     ·have HTT := hid (HI2.out (by trivial))
      generalize txF main = t at *
      go_upto_region 16 with fail
      have kd := kx.trans (Keeps.refl wc).drew
      have hbx := HB1.out.keeps kd
      have h0 := HA.out.keeps kd
      have h1 := HC.out.keeps kd
      refine wp_region_kinds (L := 10) (nt := 92) (ins := [0, 1, 3, 6]) (ds := [84, 85, 86, 87, 88, 89, 90, 91, 8, 9]) (by kernel_rfl) (by kernel_rfl) (fun s v w' => ((fun s => if s = 0 then .val (.string lg) else if s = 1 then .val (.int .i64 r) else if s = 3 then .val (.string main) else if s = 6 then .val (.pointer (some ⟨w.heap.size, 0, none⟩)) else if s = 8 then rowP (rpR (lgN lg) r.toNat ss tt main) else if s = 9 then .val (.bool (rpR (lgN lg) r.toNat ss tt main).isSome) else if s = 84 then .val (.string lg) else if s = 85 then .val (.int .i64 r) else if s = 86 then .sq (ss) (tt) else if s = 87 then .val (.string main) else if s = 88 then .nd t else if s = 89 then tupP (rpR (lgN lg) r.toNat ss tt main) else if s = 90 then rowP (rpR (lgN lg) r.toNat ss tt main) else if s = 91 then .val (.bool (rpR (lgN lg) r.toNat ss tt main).isSome) else .any : Nat → Kq) s).holds v w') (fun _ _ _ _ h hv => Kq.keeps h hv) ?_ (by kernel_rfl) rfl ?_ ?_
      ·refine lK (kMove 0 (.inl rfl) rfl (by kernel_rfl) (fun d hd => by cases hd; rfl)) ?_
       refine lK (kMove 1 (.inl rfl) rfl (by kernel_rfl) (fun d hd => by cases hd; rfl)) ?_
       refine lK (kLoadQ 6 (w.heap.size) _ _ (ss) (tt) rfl rfl (by kernel_rfl) rfl hbx h0 h1 (fun d hd => by cases hd; rfl)) ?_
       refine lK (kMove 3 (.inl rfl) rfl (by kernel_rfl) (fun d hd => by cases hd; rfl)) ?_
       refine lK (kParsed 87 main t rfl rfl (by kernel_rfl) rfl HTT.out (fun d hd => by cases hd; rfl)) ?_
       refine lK (kRightP 84 85 86 88 lg r main t ss tt rfl rfl (by kernel_rfl) (by kernel_rfl) (by kernel_rfl) (by kernel_rfl) rfl rfl rfl rfl HLG.out HTT.out HS.out HT.out ⟨by omega, by omega⟩ (fun d hd => by cases hd; rfl)) ?_
       refine lK (kExt0 89 (rpR (lgN lg) r.toNat ss tt main) rfl rfl (by kernel_rfl) rfl (fun d hd => by cases hd; rfl)) ?_
       refine lK (kExt1 89 (rpR (lgN lg) r.toNat ss tt main) rfl rfl (by kernel_rfl) rfl (fun d hd => by cases hd; rfl)) ?_
       refine lK (kMove 90 (.inr rfl) rfl (by kernel_rfl) (fun d hd => by cases hd; rfl)) ?_
       refine lK (kMove 91 (.inr rfl) rfl (by kernel_rfl) (fun d hd => by cases hd; rfl)) True.intro
      ·intro s hs
       have : s = 0 ∨ s = 1 ∨ s = 3 ∨ s = 6 := by simpa using hs
       rcases this with rfl | rfl | rfl | rfl
       ·exact rfl
       ·exact rfl
       ·exact rfl
       ·exact rfl
      ·intro f w' hk hv
       have g8 : (rowP (rpR (lgN lg) r.toNat ss tt main)).holds (f 8) w' := hv 8 (by decide)
       have g9 : f 9 = .bool (rpR (lgN lg) r.toNat ss tt main).isSome := hv 9 (by decide)
       have HSP2 : Hid (PR = rpR (lgN lg) r.toNat ss tt main) := hid HSP.out
       clear hv HSP
       generalize rpR (lgN lg) r.toNat ss tt main = oR at *
       obtain ⟨p6, n6, c6, e6⟩ := g8.1
       have G8 := hid g8
       clear g8
       rw [e6] at G8
       have HFIN := hid (fun (h : (rowP oR).holds (.slice p6 n6 c6) w') (k : Keeps w w') => RetPre.ofRow h k)
       generalize oR.isSome = ok at *
       simp only [putAll, Act.put, List.setIfInBounds_toArray, List.set_cons_zero, List.set_cons_succ, e6, g9]
       clear g9
       go_wp2_with fail
       refine bodyPost_ret (v := .tuple #[.slice p6 n6 c6, .bool ok]) (by simp [results, Tryz.results27, go_sem]) rfl ?_
       rw [HSP2.out]
       exact HFIN.out G8.out ((k1.trans kd).trans hk)
end Go.Proofs.YtkkcfifnkcnceaaGreat
namespace Go.Proofs.YtkkcfifnkcnceaaGreat
open Go.RowKit
theorem ite_some {α : Type} {c : Prop} [Decidable c] {a b : Option α} {x : α} {P : Prop} (h : (if c then a else b) = some x) (ha : a = some x → P) (hb : b = some x → P) : P := by
 by_cases hc : c
 ·rw [if_pos hc] at h; exact ha h
 ·rw [if_neg hc] at h; exact hb h
theorem preR_len {L r : Nat} {ss tt : List ByteArray} {main : ByteArray} {ps : List SqT} (h : preR L r ss tt main = some ps) : ps.length ≤ 2 := by
 unfold preR at h
 repeat' first | (cases h; done) | (cases h; simp; done) | (refine ite_some h ?_ ?_ <;> intro h)
open scoped Classical in
theorem implIsSeq_any (s : ByteArray) (w : World) : Calls Tryz.prog 25 #[.string s] w fun e w' => e = .returned (.bool (decide (s ∈ names7))) ∧ Keeps w w' := by
 have HS : Hid (Strs (w.alloc (.cells #[.string ⟨#[75]⟩, .string ⟨#[68]⟩, .string ⟨#[84]⟩, .string ⟨#[75, 52]⟩, .string ⟨#[83, 52]⟩, .string ⟨#[71, 76]⟩, .string ⟨#[83, 53]⟩] 9)) (.slice (some ⟨w.heap.size, 0, none⟩) 7 7) names7) := hid (Strs.lit (w := w) names7 (by simp [names7]))
 have HC := hid (containsS_any names7 s _ _ HS.out)
 have kA := (Keeps.refl w).alloc (.cells #[.string ⟨#[75]⟩, .string ⟨#[68]⟩, .string ⟨#[84]⟩, .string ⟨#[75, 52]⟩, .string ⟨#[83, 52]⟩, .string ⟨#[71, 76]⟩, .string ⟨#[83, 53]⟩] 9)
 go_enter Tryz.func25, Tryz.ntmps25
 go_wp2_with fail
 refine HC.out.mono ?_; rintro e w3 ⟨rfl, rfl⟩
 go_wp2_with fail
 go_ret
 exact ⟨rfl, kA⟩
def smQ (p : SqT) : Bool := decide (p.1.length ≤ 16) && decide (p.2.length ≤ 16)
set_option maxHeartbeats 1000000 in
theorem isSmall_any (q : SqT) (a b : Value) (w : World) (ha : StrsP w a q.1) (hb : StrsP w b q.2) :
  Calls Tryz.prog 30 #[.agg #[a, b]] w fun e w' => e = .returned (.bool (smQ q)) ∧ Keeps w w' := by
 obtain ⟨p1, c1, rfl, _⟩ := ha.1.shape
 obtain ⟨p2, c2, rfl, _⟩ := hb.1.shape
 have HE : Hid (smQ q = (decide (q.1.length ≤ 16) && decide (q.2.length ≤ 16))) := hid rfl
 generalize smQ q = r at *
 clear ha hb
 generalize q.1.length = n1 at *
 generalize q.2.length = n2 at *
 have kA := (Keeps.refl w).alloc (.cells #[.slice p1 n1 c1, .slice p2 n2 c2] 26)
 obtain ⟨z0, z1⟩ := BoxQ.made w (.slice p1 n1 c1) (.slice p2 n2 c2) 26
 by_cases h1 : n1 ≤ 16
 ·have h1' : (n1 : Int) ≤ 16 := by omega
  rw [decide_eq_true h1, Bool.true_and] at HE
  by_cases h2 : n2 ≤ 16
  ·have h2' : (n2 : Int) ≤ 16 := by omega
   rw [decide_eq_true h2] at HE
   clear h1 h2
   go_enter Tryz.func30, Tryz.ntmps30
   go_wp2_with fail
   go_ret
   exact ⟨ret_bool HE.out.symm, kA⟩
  ·have h2' : ¬ (n2 : Int) ≤ 16 := by omega
   rw [decide_eq_false h2] at HE
   clear h1 h2
   go_enter Tryz.func30, Tryz.ntmps30
   go_wp2_with fail
   go_ret
   exact ⟨ret_bool HE.out.symm, kA⟩
 ·have h1' : ¬ (n1 : Int) ≤ 16 := by omega
  rw [decide_eq_false h1, Bool.false_and] at HE
  clear h1
  go_enter Tryz.func30, Tryz.ntmps30
  go_wp2_with fail
  go_ret
  exact ⟨ret_bool HE.out.symm, kA⟩
theorem rp1_any (q : SqT) (a b : Value) (w : World) (ha : StrsP w a q.1) (hb : StrsP w b q.2) :
  Calls Tryz.prog 29 #[.agg #[a, b]] w fun e w' => e = .returned (.bool (!smQ q)) ∧ Keeps w w' := by
 have kA := (Keeps.refl w).alloc (.cells #[a, b] 26)
 obtain ⟨c0, c1⟩ := BoxQ.made w a b 26
 have HI := hid (isSmall_any q a b _ (ha.keeps kA) (hb.keeps kA))
 obtain ⟨p, n, c, rfl⟩ := ha.sh
 obtain ⟨p2, n2, c2, rfl⟩ := hb.sh
 clear ha hb
 generalize smQ q = r at *
 go_enter Tryz.func29, Tryz.ntmps29
 go_wp2_with fail
 refine HI.out.mono ?_; rintro e w2 ⟨rfl, k2⟩
 go_wp2_with fail
 go_ret
 exact ⟨rfl, kA.trans k2⟩
theorem enters_rp1 : Enters 29 := fun _ _ => by kernel_rfl
set_option maxHeartbeats 1000000 in
theorem indexFuncSq (pr : SqT → Bool) (f : FuncId) (cp : Array Value) (ps : List SqT) (v : Value) (w : World) (hv : SqL w v ps) (hcf : Enters f)
  (hf : ∀ (q : SqT) (a b : Value) (w1 : World), q ∈ ps → Keeps w w1 → StrsP w1 a q.1 → StrsP w1 b q.2 → Calls Tryz.prog f (#[.agg #[a, b]] ++ cp) w1 fun e w2 => e = .returned (.bool (pr q)) ∧ Keeps w1 w2) :
  Calls Tryz.prog 69 #[v, .func (.func f) #[] cp] w fun e w' => e = .returned (.int .i64 (idxOf pr ps 0)) ∧ Keeps w w' := by
 have HV := hid hv
 obtain ⟨p, cap, rfl, hle, hmx, hlen⟩ := hv.shape
 unfold maxLen at hmx
 clear hv
 have HF := hid hf; clear hf
 have hcf' : ∀ args w, (callFunc f args).run Tryz.prog w = .ok (.enter f args) w := hcf
 clear hcf
 go_enter Tryz.func69, Tryz.ntmps69
 go_wp2
 go_loopw [4, 8] (fun r i' wr => ∃ k : Nat, k ≤ ps.length ∧ idxOf pr ps 0 = idxOf pr (ps.drop k) k ∧ Keeps w wr ∧ i' = .int .i64 k ∧ r = .int .i64 0) (fun _ i _ => ps.length - (intOf i).toNat)
 case atStart => exact ⟨0, by omega, by simp, Keeps.refl w, rfl, rfl⟩
 case round =>
  obtain ⟨k, hk, hs, kw, rfl, rfl⟩ := hrel
  have Hs := hid hs; clear hs
  by_cases hlt : k < ps.length
  ·obtain ⟨b, o, q1, m1, d1, q2, m2, d2, rfl, y0, y1, g1, g2⟩ := (HV.out.keeps kw).get k hlt
   have hd := hid (idxOf_drop pr ps k hlt)
   have HFk := hid (HF.out ps[k] _ _ wr (List.getElem_mem hlt) kw g1 g2)
   have hlt' : (k : Int) < ps.length := by omega
   clear g1 g2
   cases hp : pr ps[k]
   all_goals
    have Hp := hid hp; clear hp
    rw [Hp.out] at HFk
    go_wp2_with ((with_reducible refine HFk.out.mono ?_); rintro e w2 ⟨rfl, k2⟩)
   ·go_roundw
    case rel => exact ⟨k + 1, by omega, by rw [Hs.out, hd.out, Hp.out]; rfl, kw.trans k2, by go_num, rfl⟩
    case measure => simp [intOf]; omega
   ·go_ret
    exact ⟨ret_int (by rw [Hs.out, hd.out, Hp.out]; rfl), kw.trans k2⟩
  ·have hlt' : ¬ (k : Int) < ps.length := by omega
   go_wp2
   go_ret
   exact ⟨ret_int (by rw [Hs.out, idxOf_end _ _ _ (by omega)]), kw⟩
theorem containsFuncSq (pr : SqT → Bool) (f : FuncId) (cp : Array Value) (ps : List SqT) (v : Value) (w : World) (hv : SqL w v ps) (hcf : Enters f)
  (hf : ∀ (q : SqT) (a b : Value) (w1 : World), q ∈ ps → Keeps w w1 → StrsP w1 a q.1 → StrsP w1 b q.2 → Calls Tryz.prog f (#[.agg #[a, b]] ++ cp) w1 fun e w2 => e = .returned (.bool (pr q)) ∧ Keeps w1 w2) :
  Calls Tryz.prog 28 #[v, .func (.func f) #[] cp] w fun e w' => e = .returned (.bool (ps.any pr)) ∧ Keeps w w' := by
 have H := hid (indexFuncSq pr f cp ps v w hv hcf hf)
 obtain ⟨p, cap, rfl, _⟩ := hv.shape
 clear hv hf hcf
 have he := hid (idxOf_any pr ps 0)
 go_enter Tryz.func28, Tryz.ntmps28
 go_wp2_with (go_at_call 69; refine H.out.mono ?_; rintro e w2 ⟨rfl, k2⟩)
 go_ret
 exact ⟨ret_bool he.out, k2⟩
section
variable {md : Region.Mode} {ops : Array Oper} {Q : Exit → Act → World → Prop} {nt : Nat} {ins : List Nat} {kd : Nat → Kq} {w0 : World} {o : Oper}
theorem enters_clone : Enters 118 := fun _ _ => by kernel_rfl
theorem kClone (B s : Nat) (x : List ByteArray) (ho : o.op = .call { callee := .value (.func 118), args := #[.tmp s], argTypes := #[24] }) (hg : o.guard = none) (h : availK md ops ins o s = true) (hs : kd s = .strs x) (hB : B ≤ w0.heap.size) (hk : ∀ d, o.dst = some d → kd d = .ows B x) : StQ md ops Q nt ins kd w0 o :=
 kCall 118 _ _ ho enters_clone hg (fun a w1 k1 hv => by
  have g1 := hv s h
  rw [hs] at g1
  have g1 : StrsP w1 (a.eval (.tmp s)) x := g1
  rw [map1]
  refine (cloneS_any x _ w1 g1.1).mono ?_
  rintro e w2 ⟨v3, rfl, h3, k3⟩
  exact ⟨_, rfl, k3, fun d hd => by rw [hk d hd]; exact h3.mono (Nat.le_trans hB k1.size)⟩)
end
def RetQO (w : World) (x y : List ByteArray) (e : Ending) (w' : World) : Prop := ∃ a b, e = .returned (.agg #[a, b]) ∧ OwnS w' w.heap.size a x ∧ OwnS w' w.heap.size b y ∧ Keeps w w'
def kdCS (B : Nat) (x y : List ByteArray) (s : Nat) : Kq :=
 if s = 1 ∨ s = 3 then .val (.pointer (some ⟨B, 0, none⟩)) else if s = 6 then .val (.pointer (some ⟨B, 1, none⟩)) else if s = 2 then .val (.pointer (some ⟨B + 1, 0, none⟩)) else if s = 4 then .strs x else if s = 7 then .strs y else if s = 5 then .ows B x else if s = 8 then .ows B y else if s = 9 then .oq B x y else .any
set_option maxRecDepth 20000 in
set_option maxHeartbeats 2000000 in
theorem copySequent_any (x y : List ByteArray) (a b : Value) (w : World) (ha : StrsP w a x) (hb : StrsP w b y) : Calls Tryz.prog 70 #[.agg #[a, b]] w (RetQO w x y) := by
 obtain ⟨p, n, c, rfl⟩ := ha.sh
 obtain ⟨q, m, d, rfl⟩ := hb.sh
 have k1 := (Keeps.refl w).alloc (.cells #[.slice p n c, .slice q m d] 26)
 have b1 := BoxG.made w 26 [.slice p n c, .slice q m d] (by simp) (by simp)
 have hz1 : (w.alloc (.cells #[.slice p n c, .slice q m d] 26)).heap.size = w.heap.size + 1 := by simp
 have k2 := (Keeps.refl (w.alloc (.cells #[.slice p n c, .slice q m d] 26))).alloc (.cells #[.slice none 0 0, .slice none 0 0] 26)
 have b2 := BoxG.made (w.alloc (.cells #[.slice p n c, .slice q m d] 26)) 26 [.slice none 0 0, .slice none 0 0] (by simp) (by simp)
 rw [hz1] at b2
 have K2 := k1.trans k2
 have HB1 := hid (b1.keeps k2)
 have HB2 := hid b2
 have HA := hid (ha.keeps K2)
 have HC := hid (hb.keeps K2)
 clear ha hb b1 b2 k1 k2 hz1
 go_enter Tryz.func70, Tryz.ntmps70
 go_upto_region 1 with fail
 generalize (w.alloc (.cells #[.slice p n c, .slice q m d] 26)).alloc (.cells #[.slice none 0 0, .slice none 0 0] 26) = w1 at *
 have kd := (Keeps.refl w1).drew
 have c0 := (HB1.out.keeps kd).cell 0 (by simp)
 have c1 := (HB1.out.keeps kd).cell 1 (by simp)
 simp only [List.getElem_cons_zero, List.getElem_cons_succ] at c0 c1
 have h0 := HA.out.keeps kd
 have h1 := HC.out.keeps kd
 have hsz : w.heap.size ≤ w1.drew.heap.size := (K2.trans kd).size
 refine wp_region_tail (M := 7) (L := 8) (nt := 10) (ins := [1, 2]) (ds0 := [3, 4, 5, 6, 7, 8, 9]) (ds := [3, 4, 5, 6, 7, 8, 9]) (by kernel_rfl) (by kernel_rfl) (fun s v w' => (kdCS w.heap.size x y s).holds v w') (fun _ _ _ _ h hv => Kq.keeps h hv)
  (fun _ _ w' => ∃ x' y', BoxG w' (w.heap.size + 1) 26 [x', y'] ∧ OwnS w' w.heap.size x' x ∧ OwnS w' w.heap.size y' y ∧ Keeps w w') ?_ (by kernel_rfl) rfl ?_ ?_
 ·refine stF (by decide) (kPure1 1 (.pointer (some ⟨w.heap.size, 0, none⟩)) (.pointer (some ⟨w.heap.size, 0, none⟩)) rfl (by kernel_rfl) rfl (fun a w1 h1 => by unfold execOp; simp only [h1, Sem.run_bind, run_fieldQ0 w.heap.size]; rfl) (fun d hd => by cases hd; rfl)) ?_
  refine stF (by decide) (kLoadS 3 _ _ _ rfl rfl (by kernel_rfl) rfl c0 h0 (fun d hd => by cases hd; rfl)) ?_
  refine stF (by decide) (kClone w.heap.size 4 x rfl rfl (by kernel_rfl) rfl hsz (fun d hd => by cases hd; rfl)) ?_
  refine stF (by decide) (kPure1 1 (.pointer (some ⟨w.heap.size, 0, none⟩)) (.pointer (some ⟨w.heap.size, 1, none⟩)) rfl (by kernel_rfl) rfl (fun a w1 h1 => by unfold execOp; simp only [h1, Sem.run_bind, run_fieldQ1 w.heap.size]; rfl) (fun d hd => by cases hd; rfl)) ?_
  refine stF (by decide) (kLoadS 6 _ _ _ rfl rfl (by kernel_rfl) rfl c1 h1 (fun d hd => by cases hd; rfl)) ?_
  refine stF (by decide) (kClone w.heap.size 7 y rfl rfl (by kernel_rfl) rfl hsz (fun d hd => by cases hd; rfl)) ?_
  refine stF (by decide) (kBuildO w.heap.size 5 8 x y rfl rfl (by kernel_rfl) (by kernel_rfl) rfl rfl (fun d hd => by cases hd; rfl)) ?_
  refine stH ?_ True.intro
  intro a w2 K hsa j1 hin hds hK
  have g2 : a.eval (.tmp 2) = .pointer (some ⟨w.heap.size + 1, 0, none⟩) := hin 2 (by decide)
  have g9 : ∃ x' y', a.eval (.tmp 9) = .agg #[x', y'] ∧ OwnS w2 w.heap.size x' x ∧ OwnS w2 w.heap.size y' y := hds 9 (by decide)
  obtain ⟨x', y', e9, hx, hy⟩ := g9
  obtain ⟨px, nx, cx, rfl⟩ := hx.sh
  obtain ⟨py, ny, cy, rfl⟩ := hy.sh
  have hbx := (HB2.out.keeps kd).keeps j1
  have b3 := hbx.set 0 (.slice px nx cx)
  have b4 := b3.set 1 (.slice py ny cy)
  unfold Oper.wp execOp
  simp only [g2, e9, Sem.run_bind, run_storeQ2 (w.heap.size + 1) _ _ px py nx cx ny cy w2 hbx, Result.andThen_ok]
  show K (a.put none undef) _
  refine hK undef _ ⟨_, _, b4, own_boxed (own_boxed hx hbx (by decide)) b3 (by decide), own_boxed (own_boxed hy hbx (by decide)) b3 (by decide), ?_⟩
  exact (((K2.trans kd).trans j1).setCell (p := ⟨w.heap.size + 1, 0, none⟩) (by show w.heap.size ≤ w.heap.size + 1; omega) _).setCell (p := ⟨w.heap.size + 1, 1, none⟩) (by show w.heap.size ≤ w.heap.size + 1; omega) _
 ·intro s hs
  have : s = 1 ∨ s = 2 := by simpa using hs
  rcases this with rfl | rfl <;> rfl
 ·intro f w' hF
  obtain ⟨x', y', hbx, hx, hy, kk⟩ := hF
  have y0 := hbx.cell 0 (by simp)
  have y1 := hbx.cell 1 (by simp)
  simp only [List.getElem_cons_zero, List.getElem_cons_succ] at y0 y1
  have HR : Hid (RetQO w x y (.returned (.agg #[x', y'])) w') := hid ⟨_, _, rfl, hx, hy, kk⟩
  obtain ⟨px, nx, cx, rfl⟩ := hx.sh
  obtain ⟨py, ny, cy, rfl⟩ := hy.sh
  clear hbx hx hy kk
  simp only [putAll, Act.put, List.setIfInBounds_toArray, List.set_cons_zero, List.set_cons_succ]
  go_wp2_with fail
  refine bodyPost_ret (v := .agg #[.slice px nx cx, .slice py ny cy]) (by simp [results, Tryz.results70, go_sem, y0, y1]) rfl HR.out
theorem SqO.nil (w : World) (B : Nat) : SqO w B (.slice none 0 0) [] := ⟨[], rfl, World.ownsRow_nil w B _ 2, fun i h => by simp at h⟩
theorem appQ {w : World} {ops : Array Oper} {rest : List Oper} {o : Oper} {a : Act} {Q : Exit → Act → World → Prop} (hgd : o.guard = none) (s x : Operand)
  (ho : o.op = .call { callee := .builtin .append, args := #[s, x], argTypes := #[29, 29] }) (base : Nat) (v : Value) (ps : List SqT) (hs : a.eval s = v) (hown : SqO w base v ps)
  (p : Option Addr) (cc : Nat) (y z : Value) (A C : List ByteArray) (hx : a.eval x = .slice p 1 cc) (hat : At w p [y, z]) (hy : OwnS w base y A) (hz : OwnS w base z C) (hbase : base ≤ w.heap.size) (hlen : ps.length ≤ 1000000)
  (h : ∀ v' w', SqO w' base v' (ps ++ [(A, C)]) → w.grownBy w' v.ownBlock → (∀ k, v.ownBlock = some k → base ≤ k) → wpList Tryz.prog ops Q rest (a.put o.dst v') w') : wpList Tryz.prog ops Q (o :: rest) a w :=
 wpList_plain hgd fun _ hK => appQK s x ho base v ps hs hown p cc y z A C hx hat hy hz hbase hlen fun v' w' h1 h2 h3 => hK _ _ (h v' w' h1 h2 h3)
theorem At.lit2q (w : World) (u v : Value) (T : TypeId) : At (w.alloc (.cells #[u, v] T)) (some ⟨w.heap.size, 0, none⟩) [u, v] := fun j hj => by
 have : j = 0 ∨ j = 1 := by simp at hj; omega
 rcases this with rfl | rfl
 ·exact ⟨_, 0, rfl, by simp⟩
 ·exact ⟨_, 0, rfl, by simp⟩
set_option maxRecDepth 20000 in
set_option maxHeartbeats 2000000 in
theorem copySequents_any (ps : List SqT) (hn : ps.length ≤ 1000) (v : Value) (w : World) (hv : SqL w v ps) : Calls Tryz.prog 31 #[v] w fun e w' => ∃ v', e = .returned v' ∧ SqO w' w.heap.size v' ps ∧ Keeps w w' := by
 have HV := hid hv
 obtain ⟨p, cap, rfl, hle, hmx, _⟩ := hv.shape
 unfold maxLen at hmx
 have HT : Hid (ps.take ps.length = ps) := hid (List.take_length)
 clear hv
 go_enter Tryz.func31, Tryz.ntmps31
 go_wp2
 go_loopw [3, 8] (fun o i' wr => ∃ (k : Nat), k ≤ ps.length ∧ i' = .int .i64 (k : Nat) ∧ SqO wr w.heap.size o (ps.take k) ∧ Keeps w wr) (fun _ i' _ => ps.length - (intOf i').toNat)
 case atStart => exact ⟨0, by omega, rfl, by simpa using SqO.nil w w.heap.size, Keeps.refl w⟩
 case round =>
  obtain ⟨k, hk, rfl, hown, kw⟩ := hrel
  have HO := hid hown
  clear hown
  by_cases hlt : k < ps.length
  ·have hlt' : (k : Int) < ps.length := by omega
   obtain ⟨b, o, q1, m1, d1, q2, m2, d2, rfl, y0, y1, g1, g2⟩ := (HV.out.keeps kw).get k hlt
   have kA := (Keeps.refl wr).alloc (.cells #[.slice q1 m1 d1, .slice q2 m2 d2] 26)
   obtain ⟨z0, z1⟩ := BoxQ.made wr (.slice q1 m1 d1) (.slice q2 m2 d2) 26
   have HC := hid (copySequent_any ps[k].1 ps[k].2 _ _ _ (g1.keeps kA) (g2.keeps kA))
   have HTK : Hid (ps.take (k + 1) = ps.take k ++ [(ps[k].1, ps[k].2)]) := hid (by rw [List.take_add_one, List.getElem?_eq_getElem hlt]; rfl)
   have hll : (ps.take k).length ≤ 1000 := by simp; omega
   have HOA := hid (HO.out.keeps kA)
   have KA := kw.trans kA
   have hs1 := KA.size
   clear g1 g2 HO
   generalize ps[k].1 = X at *
   generalize ps[k].2 = Y at *
   generalize ps.take k = R at *
   go_wp2_with fail
   refine HC.out.mono ?_; rintro e w2 ⟨a2, b2, rfl, ha2, hb2, k2⟩
   obtain ⟨pa, na, ca, rfl⟩ := ha2.sh
   obtain ⟨pb, nb, cb, rfl⟩ := hb2.sh
   have k3 := (Keeps.refl w2).alloc (.cells #[.slice pa na ca, .slice pb nb cb] 26)
   have hO3 := (HOA.out.keeps k2).keeps k3
   have ha3 := (ha2.mono hs1).keeps k3
   have hb3 := (hb2.mono hs1).keeps k3
   have hat := At.lit2q w2 (.slice pa na ca) (.slice pb nb cb) 26
   have K3 := (KA.trans k2).trans k3
   have hs3 := K3.size
   clear ha2 hb2 HOA HC y0 y1 z0 z1
   go_wp2_with (at_builtin; refine appQ rfl (.tmp 12) (.tmp 15) rfl w.heap.size _ R rfl hO3 _ _ _ _ X Y rfl hat ha3 hb3 hs3 (by omega) ?_; intro v4 w4 hv4 hg4 hr4)
   have K4 := K3.grown hg4 hr4
   go_roundw
   case rel => exact ⟨k + 1, by omega, by go_num, by rw [HTK.out]; exact hv4, K4⟩
   case measure => simp [intOf]; omega
  ·obtain rfl : k = ps.length := by omega
   have hlt' : ¬ ((ps.length : Int) < ps.length) := by omega
   rw [HT.out] at HO
   go_wp2_with fail
   go_ret
   exact ⟨_, rfl, HO.out, kw⟩
open scoped Classical in
set_option maxRecDepth 20000 in
set_option maxHeartbeats 4000000 in
theorem implRule_any (lg : ByteArray) (r : Int) (main : ByteArray) (ss tt : List ByteArray) (hs : Mid ss) (ht : Mid tt) (a b : Value) (w : World) (ha : StrsP w a ss) (hb : StrsP w b tt) (hms : main.size ≤ 10000000) :
  Calls Tryz.prog 7 #[.string lg, .int .i64 r, .agg #[a, b], .string main] w (RetRule w (rulE lg r.toNat ss tt main)) := by
 obtain ⟨p, n, c, rfl⟩ := ha.sh
 obtain ⟨q, m, d, rfl⟩ := hb.sh
 have k1 := (Keeps.refl w).alloc (.cells #[.slice p n c, .slice q m d] 26)
 have b1 := BoxG.made w 26 [.slice p n c, .slice q m d] (by simp) (by simp)
 have HB1 := hid b1
 have HA := hid (ha.keeps k1)
 have HC := hid (hb.keeps k1)
 have HS := hid hs
 have HT := hid ht
 have HE : Hid (rulE lg r.toNat ss tt main = if lg ∉ names7 then ((2 : Int), ([] : List SqT)) else if isQ ss tt = false then (1, []) else match preR (lgN lg) r.toNat ss tt main with
  | none => (4, [])
  | some ps => if shQ ps then (0, ps) else (3, [])) := hid rfl
 generalize rulE lg r.toNat ss tt main = X at *
 clear ha hb b1 hs ht
 have HL := hid (fun wz => implIsSeq_any lg wz)
 have HQ := hid (fun wz (kz : Keeps _ wz) => isModalSequent_any ss tt _ _ wz (HA.out.keeps kz).1 (HC.out.keeps kz).1 HS.out HT.out)
 go_enter Tryz.func7, Tryz.ntmps7
 go_upto_region 1 with fail
 generalize w.alloc (.cells #[.slice p n c, .slice q m d] 26) = w1 at *
 by_cases hn : lg ∈ names7
 ·rw [decide_eq_true hn] at HL
  rw [if_neg (fun h => h hn)] at HE
  have HLG := hid hn
  clear hn
  go_wp2_with fail
  refine (HL.out _).mono ?_; rintro e w2 ⟨rfl, k2⟩
  have z0 := (HB1.out.keeps k2).cell 0 (by simp)
  have z1 := (HB1.out.keeps k2).cell 1 (by simp)
  simp only [List.getElem_cons_zero, List.getElem_cons_succ] at z0 z1
  go_wp2_with fail
  refine (HQ.out _ k2).mono ?_; rintro e w3 ⟨rfl, k3⟩
  cases hq : isQ ss tt
  ·rw [if_pos hq] at HE
   have HE2 := hid HE.out
   clear hq HE HQ HL
   go_wp2_with fail
   refine bodyPost_ret (v := .tuple #[.slice none 0 0, .int .i64 1]) (by simp [results, Tryz.results7, go_sem]) rfl ?_
   rw [HE2.out]
   exact ⟨_, rfl, ⟨_, _, _, rfl⟩, SqL.none0 _ _, (k1.trans k2).trans k3⟩
  ·obtain ⟨l1, l2, s1, s2⟩ := isQ_iff hq
   rw [if_neg (by rw [hq]; simp)] at HE
   have HPR := hid (fun wz (kz : Keeps w1 wz) => premisesOf_any lg r main HLG.out ss tt s1 s2 _ _ wz (HA.out.keeps kz) (HC.out.keeps kz) ⟨by omega, by omega⟩ hms)
   have HPL := hid (fun ps (h : preR (lgN lg) r.toNat ss tt main = some ps) => preR_len h)
   have k23 := k2.trans k3
   have z0 := (HB1.out.keeps k23).cell 0 (by simp)
   have z1 := (HB1.out.keeps k23).cell 1 (by simp)
   simp only [List.getElem_cons_zero, List.getElem_cons_succ] at z0 z1
   clear hq HQ HL s1 s2
   go_wp2_with fail
   refine (HPR.out _ k23).mono ?_; rintro e w4 ⟨v4, b4, rfl, ⟨p4, n4, c4, rfl⟩, hb0, hb1, k4⟩
   cases b4
   ·have h0 := hb0 rfl
    rw [h0] at HE
    have HE2 := hid HE.out
    clear HE h0 hb0 hb1 HPR
    go_wp2_with fail
    refine bodyPost_ret (v := .tuple #[.slice none 0 0, .int .i64 4]) (by simp [results, Tryz.results7, go_sem]) rfl ?_
    rw [HE2.out]
    exact ⟨_, rfl, ⟨_, _, _, rfl⟩, SqL.none0 _ _, (k1.trans k23).trans k4⟩
   ·obtain ⟨ps, h0, hq4⟩ := hb1 rfl
    have hpl := HPL.out ps h0
    rw [h0] at HE
    have HE2 : Hid (X = if shQ ps then (0, ps) else (3, [])) := hid HE.out
    have HSH : Hid (ps.any (fun q => !smQ q) = !shQ ps) := hid (by
     unfold shQ
     rw [List.not_all_eq_any_not]
     rfl)
    have HCF := hid (containsFuncSq (fun q => !smQ q) 29 #[] ps _ w4 hq4 enters_rp1 (fun q a b w1 _ _ h1 h2 => rp1_any q a b w1 h1 h2))
    have HCP := hid (fun wz (kz : Keeps w4 wz) => copySequents_any ps (by omega) _ wz (hq4.keeps kz))
    have HKK := hid ((k1.trans k23).trans k4)
    have HBD : Hid (shQ ps = true → ∀ p ∈ ps, p.1.length ≤ 2147483648 ∧ p.2.length ≤ 2147483648) := hid (fun h p hp => by
     have := List.all_eq_true.1 (show (ps.all fun p => decide (p.1.length ≤ 16) && decide (p.2.length ≤ 16)) = true from h) p hp
     simp only [Bool.and_eq_true, decide_eq_true_eq] at this
     omega)
    rw [HSH.out] at HCF
    clear HE h0 hb0 hb1 HPR hq4 z0 z1 HSH HPL
    cases hsh : shQ ps
    ·rw [hsh] at HCF HE2
     have HX : Hid (X = (3, [])) := hid HE2.out
     clear hsh HE2
     go_wp2_with fail
     refine HCF.out.mono ?_; rintro e w5 ⟨rfl, k5⟩
     go_wp2_with fail
     refine bodyPost_ret (v := .tuple #[.slice none 0 0, .int .i64 3]) (by simp [results, Tryz.results7, go_sem]) rfl ?_
     rw [HX.out]
     exact ⟨_, rfl, ⟨_, _, _, rfl⟩, SqL.none0 _ _, HKK.out.trans k5⟩
    ·have hbd := HBD.out hsh
     have HBD2 := hid hbd
     rw [hsh] at HCF HE2
     have HX : Hid (X = (0, ps)) := hid HE2.out
     clear hsh HE2 HBD hbd
     go_wp2_with fail
     refine HCF.out.mono ?_; rintro e w5 ⟨rfl, k5⟩
     go_wp2_with fail
     refine (HCP.out _ k5).mono ?_; rintro e w6 ⟨v6, rfl, hv6, k6⟩
     obtain ⟨p6, n6, c6, rfl⟩ := hv6.sh
     have HV6 := hid (hv6.sql (by omega) HBD2.out)
     clear hv6 HCP HCF
     go_wp2_with fail
     refine bodyPost_ret (v := .tuple #[.slice p6 n6 c6, .int .i64 0]) (by simp [results, Tryz.results7, go_sem]) rfl ?_
     rw [HX.out]
     exact ⟨_, rfl, ⟨_, _, _, rfl⟩, HV6.out, (HKK.out.trans k5).trans k6⟩
 ·rw [decide_eq_false hn] at HL
  rw [if_pos hn] at HE
  have HE2 := hid HE.out
  clear hn HE HQ
  go_wp2_with fail
  refine (HL.out _).mono ?_; rintro e w2 ⟨rfl, k2⟩
  go_wp2_with fail
  refine bodyPost_ret (v := .tuple #[.slice none 0 0, .int .i64 2]) (by simp [results, Tryz.results7, go_sem]) rfl ?_
  rw [HE2.out]
  exact ⟨_, rfl, ⟨_, _, _, rfl⟩, SqL.none0 _ _, k1.trans k2⟩
end Go.Proofs.YtkkcfifnkcnceaaGreat
