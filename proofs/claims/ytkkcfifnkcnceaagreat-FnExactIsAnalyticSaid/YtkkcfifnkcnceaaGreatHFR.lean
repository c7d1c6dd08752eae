import Derived.Test.YtkkcfifnkcnceaaGreatHFL
import Derived.Test.YtkkcfifnkcnceaaGreatHV9
import Derived.Test.YtkkcfifnkcnceaaGreatHER
/- The program's premises of a rule. -/
namespace Go.Proofs.YtkkcfifnkcnceaaGreat
open Go.RowKit
theorem preR_split (L r : Nat) (ss tt : List ByteArray) (main : ByteArray) (hne : main ∈ ss ∨ main ∈ tt → main ≠ ⟨#[]⟩) (h1 : r ≠ 1) (h2 : r ≠ 2) (h12 : r ≠ 12) (h14 : r ≠ 14) :
  preR L r ss tt main = match (if inS ss main = true then lpR L r ss tt main else none) with
   | some ps => some ps
   | none => if inS tt main = true then rpR L r ss tt main else none := by
 by_cases e3 : r = 3
 ·subst e3
  rw [show preR L 3 ss tt main = if (onS ss main isAn) = true then some [(insS (insS (remS ss main) (pa1 main)) (pa2 main), tt)] else none from rfl, show lpR L 3 ss tt main = if (isAn (txF main)) = true then some [(insS (insS (remS ss main) (pa1 main)) (pa2 main), tt)] else none from rfl, show rpR L 3 ss tt main = none from rfl]
  unfold onS
  cases inS ss main <;> cases inS tt main <;> cases isAn (txF main) <;> rfl
 by_cases e4 : r = 4
 ·subst e4
  rw [show preR L 4 ss tt main = if (onS tt main isAn) = true then some [(ss, insS (remS tt main) (pa1 main)), (ss, insS (remS tt main) (pa2 main))] else none from rfl, show lpR L 4 ss tt main = none from rfl, show rpR L 4 ss tt main = if (isAn (txF main)) = true then some [(ss, insS (remS tt main) (pa1 main)), (ss, insS (remS tt main) (pa2 main))] else none from rfl]
  unfold onS
  cases inS ss main <;> cases inS tt main <;> cases isAn (txF main) <;> rfl
 by_cases e5 : r = 5
 ·subst e5
  rw [show preR L 5 ss tt main = if (onS ss main isOr) = true then some [(insS (remS ss main) (pa1 main), tt), (insS (remS ss main) (pa2 main), tt)] else none from rfl, show lpR L 5 ss tt main = if (isOr (txF main)) = true then some [(insS (remS ss main) (pa1 main), tt), (insS (remS ss main) (pa2 main), tt)] else none from rfl, show rpR L 5 ss tt main = none from rfl]
  unfold onS
  cases inS ss main <;> cases inS tt main <;> cases isOr (txF main) <;> rfl
 by_cases e6 : r = 6
 ·subst e6
  rw [show preR L 6 ss tt main = if (onS tt main isOr) = true then some [(ss, insS (insS (remS tt main) (pa1 main)) (pa2 main))] else none from rfl, show lpR L 6 ss tt main = none from rfl, show rpR L 6 ss tt main = if (isOr (txF main)) = true then some [(ss, insS (insS (remS tt main) (pa1 main)) (pa2 main))] else none from rfl]
  unfold onS
  cases inS ss main <;> cases inS tt main <;> cases isOr (txF main) <;> rfl
 by_cases e7 : r = 7
 ·subst e7
  rw [show preR L 7 ss tt main = if (onS ss main isIm) = true then some [(remS ss main, insS tt (pa1 main)), (insS (remS ss main) (pa2 main), tt)] else none from rfl, show lpR L 7 ss tt main = if (isIm (txF main)) = true then some [(remS ss main, insS tt (pa1 main)), (insS (remS ss main) (pa2 main), tt)] else none from rfl, show rpR L 7 ss tt main = none from rfl]
  unfold onS
  cases inS ss main <;> cases inS tt main <;> cases isIm (txF main) <;> rfl
 by_cases e8 : r = 8
 ·subst e8
  rw [show preR L 8 ss tt main = if (onS tt main isIm) = true then some [(insS ss (pa1 main), insS (remS tt main) (pa2 main))] else none from rfl, show lpR L 8 ss tt main = none from rfl, show rpR L 8 ss tt main = if (isIm (txF main)) = true then some [(insS ss (pa1 main), insS (remS tt main) (pa2 main))] else none from rfl]
  unfold onS
  cases inS ss main <;> cases inS tt main <;> cases isIm (txF main) <;> rfl
 by_cases e9 : r = 9
 ·subst e9
  rw [show preR L 9 ss tt main = if (onS ss main isBx && rfL L) = true then some [(insS ss (paI main), tt)] else none from rfl, show lpR L 9 ss tt main = if (isBx (txF main) && rfL L) = true then some [(insS ss (paI main), tt)] else none from rfl, show rpR L 9 ss tt main = none from rfl]
  unfold onS
  cases inS ss main <;> cases inS tt main <;> cases isBx (txF main) <;> cases rfL L <;> rfl
 by_cases e10 : r = 10
 ·subst e10
  rw [show preR L 10 ss tt main = if (onS tt main isDi && rfL L) = true then some [(ss, insS tt (paI main))] else none from rfl, show lpR L 10 ss tt main = none from rfl, show rpR L 10 ss tt main = if (isDi (txF main) && rfL L) = true then some [(ss, insS tt (paI main))] else none from rfl]
  unfold onS
  cases inS ss main <;> cases inS tt main <;> cases isDi (txF main) <;> cases rfL L <;> rfl
 by_cases e11 : r = 11
 ·subst e11
  rw [show preR L 11 ss tt main = if onS tt main isBx = true then some [moBx L ss tt main] else if onS ss main isDi = true then some [moDi L ss tt main] else none from rfl, show lpR L 11 ss tt main = if isDi (txF main) = true then some [((mdQ L ss tt main).1, (mdQ L ss tt main).2)] else none from rfl, show rpR L 11 ss tt main = if isBx (txF main) = true then some [((mdQ L ss tt main).1, (mdQ L ss tt main).2)] else none from rfl]
  unfold onS
  have hx : ¬ (isBx (txF main) = true ∧ isDi (txF main) = true) := by cases txF main <;> simp [isBx, isDi]
  have hm : inS ss main = true ∨ inS tt main = true → mdQ L ss tt main = if isBx (txF main) = true then moBx L ss tt main else moDi L ss tt main := fun h => by
   unfold mdQ
   rw [if_neg (hne (by rw [inS_iff, inS_iff] at h; exact h))]
  generalize mdQ L ss tt main = md at *
  generalize moBx L ss tt main = mb at *
  generalize moDi L ss tt main = mo at *
  clear hne
  generalize inS ss main = o1 at *
  generalize inS tt main = o2 at *
  generalize isBx (txF main) = bx at *
  generalize isDi (txF main) = di at *
  cases o1 <;> cases o2 <;> cases bx <;> cases di <;> first | rfl | (exact absurd ⟨rfl, rfl⟩ hx) | (rw [hm (.inl rfl)]; rfl) | (rw [hm (.inr rfl)]; rfl)
 rw [show preR L r ss tt main = none by
  unfold preR
  rw [if_neg (by omega), if_neg (by omega), if_neg (by omega), if_neg (by omega), if_neg (by omega), if_neg (by omega), if_neg (by omega), if_neg (by omega), if_neg (by omega), if_neg (by omega), if_neg (by omega), if_neg (by omega), if_neg (by omega)], show lpR L r ss tt main = none by
  unfold lpR
  rw [if_neg (by omega), if_neg (by omega), if_neg (by omega), if_neg (by omega), if_neg (by omega)], show rpR L r ss tt main = none by
  unfold rpR
  rw [if_neg (by omega), if_neg (by omega), if_neg (by omega), if_neg (by omega), if_neg (by omega)]]
 cases inS ss main <;> cases inS tt main <;> rfl
def rowP (o : Option (List SqT)) : Kq := .pr (fun v w => (∃ p n c, v = .slice p n c) ∧ ∀ ps, o = some ps → SqL w v ps) (fun _ _ _ k h => ⟨h.1, fun ps e => (h.2 ps e).keeps k⟩)
def tupP (o : Option (List SqT)) : Kq := .pr (fun v w => ∃ u, v = .tuple #[u, .bool o.isSome] ∧ (rowP o).holds u w) (fun _ _ _ k h => by obtain ⟨u, e, h⟩ := h; exact ⟨u, e, Kq.keeps k h⟩)
theorem RetPre.tup {w w' : World} {o : Option (List SqT)} {e : Ending} (h : RetPre w o e w') : ∃ v, e = .returned v ∧ Keeps w w' ∧ (tupP o).holds v w' := by
 obtain ⟨v, b, rfl, hs, h0, h1, k⟩ := h
 refine ⟨_, rfl, k, v, ?_, hs, fun ps e => ?_⟩
 ·cases b
  ·rw [h0 rfl]; rfl
  ·obtain ⟨ps, e, _⟩ := h1 rfl
   rw [e]; rfl
 ·cases b
  ·rw [h0 rfl] at e; cases e
  ·obtain ⟨ps', e', h⟩ := h1 rfl
   rw [e] at e'
   cases e'
   exact h
theorem RetPre.ofRow {w w' : World} {o : Option (List SqT)} {v : Value} (h : (rowP o).holds v w') (k : Keeps w w') : RetPre w o (.returned (.tuple #[v, .bool o.isSome])) w' := by
 refine ⟨v, _, rfl, h.1, fun e => ?_, fun e => ?_, k⟩
 ·cases o with
  | none => rfl
  | some ps => cases e
 ·cases o with
  | none => cases e
  | some ps => exact ⟨ps, rfl, h.2 ps rfl⟩
open scoped Classical in
theorem cont_in (ss : List ByteArray) (x : ByteArray) (v : Value) (w : World) (hv : Strs w v ss) : Calls Tryz.prog 61 #[v, .string x] w fun e w' => e = .returned (.bool (inS ss x)) ∧ w = w' := by
 refine (containsS_any ss x v w hv).mono ?_
 rintro e w' ⟨rfl, rfl⟩
 refine ⟨?_, rfl⟩
 congr 2
 rw [Bool.eq_iff_iff, decide_eq_true_eq, inS_iff]
section
variable {md : Region.Mode} {ops : Array Oper} {Q : Exit → Act → World → Prop} {nt : Nat} {ins : List Nat} {kd : Nat → Kq} {w0 : World} {o : Oper}
theorem enters_cont : Enters 61 := fun _ _ => by kernel_rfl
theorem kCont (s s' : Nat) (x : List ByteArray) (y : ByteArray) (ho : o.op = .call { callee := .value (.func 61), args := #[.tmp s, .tmp s'], argTypes := #[24, 9] }) (hg : o.guard = none) (h : availK md ops ins o s = true) (h' : availK md ops ins o s' = true) (hs : kd s = .strs x) (hs' : kd s' = .val (.string y)) (hk : ∀ d, o.dst = some d → kd d = .val (.bool (inS x y))) : StQ md ops Q nt ins kd w0 o :=
 kCall 61 _ _ ho enters_cont hg (fun a w1 _ hv => by
  have g1 := hv s h
  have g2 := hv s' h'
  rw [hs] at g1
  rw [hs'] at g2
  have g1 : StrsP w1 (a.eval (.tmp s)) x := g1
  have g2 : a.eval (.tmp s') = .string y := g2
  rw [map2, g2]
  refine (cont_in x y _ w1 g1.1).mono ?_
  rintro e w2 ⟨rfl, rfl⟩
  exact ⟨_, rfl, Keeps.refl _, fun d hd => by rw [hk d hd]; exact rfl⟩)
theorem enters_isTx : Enters 65 := fun _ _ => by kernel_rfl
theorem kIsTx (s : Nat) (y : ByteArray) (ho : o.op = .call { callee := .value (.func 65), args := #[.tmp s], argTypes := #[9] }) (hg : o.guard = none) (h : availK md ops ins o s = true) (hs : kd s = .val (.string y)) (hl : y.size ≤ 10000000) (hk : ∀ d, o.dst = some d → kd d = .val (.bool (isTx y))) : StQ md ops Q nt ins kd w0 o :=
 kCall 65 _ _ ho enters_isTx hg (fun a w1 _ hv => by
  have g2 := hv s h
  rw [hs] at g2
  have g2 : a.eval (.tmp s) = .string y := g2
  rw [map1, g2]
  refine (isTextA y w1 hl).mono ?_
  rintro e w2 ⟨rfl, k2⟩
  exact ⟨_, rfl, k2, fun d hd => by rw [hk d hd]; exact rfl⟩)
theorem enters_prsd : Enters 67 := fun _ _ => by kernel_rfl
theorem kParsed (s : Nat) (y : ByteArray) (t : Fm) (ho : o.op = .call { callee := .value (.func 67), args := #[.tmp s], argTypes := #[9] }) (hg : o.guard = none) (h : availK md ops ins o s = true) (hs : kd s = .val (.string y)) (hy : IsTx y t) (hk : ∀ d, o.dst = some d → kd d = .nd t) : StQ md ops Q nt ins kd w0 o :=
 kCall 67 _ _ ho enters_prsd hg (fun a w1 _ hv => by
  have g2 := hv s h
  rw [hs] at g2
  have g2 : a.eval (.tmp s) = .string y := g2
  rw [map1, g2]
  refine (parsedT t y w1 hy).mono ?_
  rintro e w2 ⟨v, rfl, hv, k2⟩
  exact ⟨_, rfl, k2, fun d hd => by rw [hk d hd]; exact hv.nds (by have := hy.2.2; omega)⟩)
theorem map4' {f : Operand → Value} (x y z u : Operand) : (#[x, y, z, u] : Array Operand).map f = #[f x, f y, f z, f u] := by simp
theorem enters_leftP : Enters 66 := fun _ _ => by kernel_rfl
theorem kLeftP (s1 s2 s3 s4 : Nat) (lg : ByteArray) (r : Int) (main : ByteArray) (t : Fm) (ss tt : List ByteArray) (ho : o.op = .call { callee := .value (.func 66), args := #[.tmp s1, .tmp s2, .tmp s3, .tmp s4], argTypes := #[9, 2, 26, 95] }) (hg : o.guard = none) (h1 : availK md ops ins o s1 = true) (h2 : availK md ops ins o s2 = true) (h3 : availK md ops ins o s3 = true) (h4 : availK md ops ins o s4 = true)
  (e1 : kd s1 = .val (.string lg)) (e2 : kd s2 = .val (.int .i64 r)) (e3 : kd s3 = .sq ss tt) (e4 : kd s4 = .nd t) (hlg : lg ∈ names7) (hm : IsTx main t) (hs : Side ss) (ht : Side tt) (hl : ss.length ≤ 1000 ∧ tt.length ≤ 1000) (hk : ∀ d, o.dst = some d → kd d = tupP (lpR (lgN lg) r.toNat ss tt main)) : StQ md ops Q nt ins kd w0 o :=
 kCall 66 _ _ ho enters_leftP hg (fun a w1 _ hv => by
  have g1 := hv s1 h1
  have g2 := hv s2 h2
  have g3 := hv s3 h3
  have g4 := hv s4 h4
  rw [e1] at g1
  rw [e2] at g2
  rw [e3] at g3
  rw [e4] at g4
  have g1 : a.eval (.tmp s1) = .string lg := g1
  have g2 : a.eval (.tmp s2) = .int .i64 r := g2
  have g4 : Nds w1 (a.eval (.tmp s4)) t.enc := g4
  obtain ⟨x, y, g3, hx, hy⟩ := g3
  rw [map4', g1, g2, g3]
  refine (leftPremises_any lg r main t hlg hm ss tt hs ht x y _ w1 hx hy g4 hl).mono ?_
  rintro e w2 hR
  obtain ⟨v, rfl, k2, h⟩ := hR.tup
  exact ⟨v, rfl, k2, fun d hd => by rw [hk d hd]; exact h⟩)
theorem enters_rightP : Enters 68 := fun _ _ => by kernel_rfl
theorem kRightP (s1 s2 s3 s4 : Nat) (lg : ByteArray) (r : Int) (main : ByteArray) (t : Fm) (ss tt : List ByteArray) (ho : o.op = .call { callee := .value (.func 68), args := #[.tmp s1, .tmp s2, .tmp s3, .tmp s4], argTypes := #[9, 2, 26, 95] }) (hg : o.guard = none) (h1 : availK md ops ins o s1 = true) (h2 : availK md ops ins o s2 = true) (h3 : availK md ops ins o s3 = true) (h4 : availK md ops ins o s4 = true)
  (e1 : kd s1 = .val (.string lg)) (e2 : kd s2 = .val (.int .i64 r)) (e3 : kd s3 = .sq ss tt) (e4 : kd s4 = .nd t) (hlg : lg ∈ names7) (hm : IsTx main t) (hs : Side ss) (ht : Side tt) (hl : ss.length ≤ 1000 ∧ tt.length ≤ 1000) (hk : ∀ d, o.dst = some d → kd d = tupP (rpR (lgN lg) r.toNat ss tt main)) : StQ md ops Q nt ins kd w0 o :=
 kCall 68 _ _ ho enters_rightP hg (fun a w1 _ hv => by
  have g1 := hv s1 h1
  have g2 := hv s2 h2
  have g3 := hv s3 h3
  have g4 := hv s4 h4
  rw [e1] at g1
  rw [e2] at g2
  rw [e3] at g3
  rw [e4] at g4
  have g1 : a.eval (.tmp s1) = .string lg := g1
  have g2 : a.eval (.tmp s2) = .int .i64 r := g2
  have g4 : Nds w1 (a.eval (.tmp s4)) t.enc := g4
  obtain ⟨x, y, g3, hx, hy⟩ := g3
  rw [map4', g1, g2, g3]
  refine (rightPremises_any lg r main t hlg hm ss tt hs ht x y _ w1 hx hy g4 hl).mono ?_
  rintro e w2 hR
  obtain ⟨v, rfl, k2, h⟩ := hR.tup
  exact ⟨v, rfl, k2, fun d hd => by rw [hk d hd]; exact h⟩)
theorem run_ext0 (u v : Value) (w : World) : (Instr.extract (.tuple #[u, v]) 0).run Tryz.prog w = .ok u w := by kernel_rfl
theorem run_ext1 (u v : Value) (w : World) : (Instr.extract (.tuple #[u, v]) 1).run Tryz.prog w = .ok v w := by kernel_rfl
theorem kExt0 (s : Nat) (c : Option (List SqT)) (ho : o.op = .extract (.tmp s) 0) (hg : o.guard = none) (h : availK md ops ins o s = true) (hs : kd s = tupP c) (hk : ∀ d, o.dst = some d → kd d = rowP c) : StQ md ops Q nt ins kd w0 o :=
 StepK.plain hg fun a w K hsa hJ hins hdep hK => by
  have hv := getK h hins hdep
  change (kd s).holds _ w at hv
  rw [hs] at hv
  obtain ⟨u, e, hu⟩ := (hv : ∃ u, a.eval (.tmp s) = .tuple #[u, .bool c.isSome] ∧ (rowP c).holds u w)
  unfold Oper.wp execOp
  simp only [ho, e, Sem.run_bind, run_ext0 u (.bool c.isSome), Result.andThen_ok, Sem.run_pure]
  exact hK _ _ (Keeps.refl w) (fun d hd => by show (kd d).holds _ w; rw [hk d hd]; exact hu)
theorem kExt1 (s : Nat) (c : Option (List SqT)) (ho : o.op = .extract (.tmp s) 1) (hg : o.guard = none) (h : availK md ops ins o s = true) (hs : kd s = tupP c) (hk : ∀ d, o.dst = some d → kd d = .val (.bool c.isSome)) : StQ md ops Q nt ins kd w0 o :=
 StepK.plain hg fun a w K hsa hJ hins hdep hK => by
  have hv := getK h hins hdep
  change (kd s).holds _ w at hv
  rw [hs] at hv
  obtain ⟨u, e, hu⟩ := (hv : ∃ u, a.eval (.tmp s) = .tuple #[u, .bool c.isSome] ∧ (rowP c).holds u w)
  unfold Oper.wp execOp
  simp only [ho, e, Sem.run_bind, run_ext1 u (.bool c.isSome), Result.andThen_ok, Sem.run_pure]
  exact hK _ _ (Keeps.refl w) (fun d hd => by show (kd d).holds _ w; rw [hk d hd]; exact rfl)
end
set_option maxRecDepth 100000 in
set_option maxHeartbeats 8000000 in
theorem premisesOf_any (lg : ByteArray) (r : Int) (main : ByteArray) (hlg : lg ∈ names7) (ss tt : List ByteArray) (hs : Side ss) (ht : Side tt) (a b : Value) (w : World) (ha : StrsP w a ss) (hb : StrsP w b tt) (hl : ss.length ≤ 1000 ∧ tt.length ≤ 1000) (hms : main.size ≤ 10000000) :
  Calls Tryz.prog 27 #[.string lg, .int .i64 r, .agg #[a, b], .string main] w (RetPre w (preR (lgN lg) r.toNat ss tt main)) := by
 obtain ⟨p, n, c, rfl⟩ := ha.sh
 obtain ⟨q, m, d, rfl⟩ := hb.sh
 have k1 := (Keeps.refl w).alloc (.cells #[.slice p n c, .slice q m d] 26)
 have b1 := BoxG.made w 26 [.slice p n c, .slice q m d] (by simp) (by simp)
 have HB1 := hid b1
 have HA := hid (ha.keeps k1)
 have HC := hid (hb.keeps k1)
 have HS := hid hs
 have HT := hid ht
 have HLG := hid hlg
 obtain ⟨l1, l2⟩ := hl
 clear ha hb b1 hs ht hlg
 go_enter Tryz.func27, Tryz.ntmps27
 go_upto_region 1 with fail
 generalize w.alloc (.cells #[.slice p n c, .slice q m d] 26) = w1 at *
 go_cut [10, 11] from 14 to 21 (fun v10 v11 wx => v10 = .bool (inS ss main) ∧ v11 = .bool (inS tt main) ∧ Keeps w1 wx)
 case first =>
  have kd := (Keeps.refl w1).drew
  have c0 := (HB1.out.keeps kd).cell 0 (by simp)
  have c1 := (HB1.out.keeps kd).cell 1 (by simp)
  simp only [List.getElem_cons_zero, List.getElem_cons_succ] at c0 c1
  have h0 := HA.out.keeps kd
  have h1 := HC.out.keeps kd
  refine wp_region_kinds (L := 10) (nt := 92) (ins := [3, 6]) (ds := [14, 15, 16, 17, 18, 19, 20, 21, 10, 11]) (by kernel_rfl) (by kernel_rfl) (fun s v w' => ((fun s => if s = 3 then .val (.string main) else if s = 6 then .val (.pointer (some ⟨w.heap.size, 0, none⟩)) else if s = 10 then .val (.bool (inS ss main)) else if s = 11 then .val (.bool (inS tt main)) else if s = 14 then .val (.pointer (some ⟨w.heap.size, 0, none⟩)) else if s = 15 then .strs (ss) else if s = 16 then .val (.string main) else if s = 17 then .val (.bool (inS ss main)) else if s = 18 then .val (.pointer (some ⟨w.heap.size, 1, none⟩)) else if s = 19 then .strs (tt) else if s = 20 then .val (.string main) else if s = 21 then .val (.bool (inS tt main)) else .any : Nat → Kq) s).holds v w') (fun _ _ _ _ h hv => Kq.keeps h hv) ?_ (by kernel_rfl) rfl ?_ ?_
  ·refine lK (kPure1 6 (.pointer (some ⟨w.heap.size, 0, none⟩)) (.pointer (some ⟨w.heap.size, 0, none⟩)) rfl (by kernel_rfl) rfl (fun a w1 h1 => by unfold execOp; simp only [h1, Sem.run_bind, run_fieldQ0 w.heap.size]; rfl) (fun d hd => by cases hd; rfl)) ?_
   refine lK (kLoadS 14 _ _ _ rfl rfl (by kernel_rfl) rfl c0 h0 (fun d hd => by cases hd; rfl)) ?_
   refine lK (kMove 3 (.inl rfl) rfl (by kernel_rfl) (fun d hd => by cases hd; rfl)) ?_
   refine lK (kCont 15 16 (ss) main rfl rfl (by kernel_rfl) (by kernel_rfl) rfl rfl (fun d hd => by cases hd; rfl)) ?_
   refine lK (kPure1 6 (.pointer (some ⟨w.heap.size, 0, none⟩)) (.pointer (some ⟨w.heap.size, 1, none⟩)) rfl (by kernel_rfl) rfl (fun a w1 h1 => by unfold execOp; simp only [h1, Sem.run_bind, run_fieldQ1 w.heap.size]; rfl) (fun d hd => by cases hd; rfl)) ?_
   refine lK (kLoadS 18 _ _ _ rfl rfl (by kernel_rfl) rfl c1 h1 (fun d hd => by cases hd; rfl)) ?_
   refine lK (kMove 3 (.inl rfl) rfl (by kernel_rfl) (fun d hd => by cases hd; rfl)) ?_
   refine lK (kCont 19 20 (tt) main rfl rfl (by kernel_rfl) (by kernel_rfl) rfl rfl (fun d hd => by cases hd; rfl)) ?_
   refine lK (kMove 17 (.inr rfl) rfl (by kernel_rfl) (fun d hd => by cases hd; rfl)) ?_
   refine lK (kMove 21 (.inr rfl) rfl (by kernel_rfl) (fun d hd => by cases hd; rfl)) True.intro
  ·intro s hs
   have : s = 3 ∨ s = 6 := by simpa using hs
   rcases this with rfl | rfl
   ·exact rfl
   ·exact rfl
  ·intro f w' hk hv
   have g10 : f 10 = .bool (inS ss main) := hv 10 (by decide)
   have g11 : f 11 = .bool (inS tt main) := hv 11 (by decide)
   clear hv
   generalize inS ss main = o1 at *
   generalize inS tt main = o2 at *
   simp only [putAll, Act.put, List.setIfInBounds_toArray, List.set_cons_zero, List.set_cons_succ, g10, g11]
   clear g10 g11
   go_wp2_with fail
   go_meet
   exact ⟨rfl, rfl, kd.trans hk⟩
 case rest =>
  obtain ⟨rfl, rfl, kc⟩ := hcut
  by_cases e1 : r = 1
  ·subst e1
   have HP : Hid (preR (lgN lg) (1 : Int).toNat ss tt main = if (inS ss main && inS tt main) = true then some [] else none) := hid rfl
   generalize inS ss main = o1 at *
   generalize inS tt main = o2 at *
   cases o1
   ·go_wp2_with fail
    refine bodyPost_ret (v := .tuple #[.slice none 0 0, .bool false]) (by simp [results, Tryz.results27, go_sem]) rfl ?_
    exact RetPre.mk (ps := []) HP.out (fun e => rfl) (SqL.none0 _ _) (k1.trans kc)
   ·go_wp2_with fail
    refine bodyPost_ret (v := .tuple #[.slice none 0 0, .bool o2]) (by simp [results, Tryz.results27, go_sem]) rfl ?_
    exact RetPre.mk (ps := []) HP.out (fun e => rfl) (SqL.none0 _ _) (k1.trans kc)
  by_cases e2 : r = 2
  ·subst e2
   have HS1 := hid (fun wz (kz : Keeps w1 wz) => cont_in ss ⟨#[70]⟩ _ wz (HA.out.keeps kz).1)
   have HP : Hid (preR (lgN lg) (2 : Int).toNat ss tt main = if (decide (main = ⟨#[]⟩) && inS ss (txS .fls)) = true then some [] else none) := hid rfl
   rw [tx_fls] at HP
   generalize inS ss ⟨#[70]⟩ = o1 at *
   have z0 := (HB1.out.keeps kc).cell 0 (by simp)
   simp only [List.getElem_cons_zero] at z0
   generalize inS ss main = o8 at *
   generalize inS tt main = o9 at *
   by_cases hm : main = ⟨#[]⟩
   ·subst hm
    rw [decide_eq_true rfl] at HP
    go_wp2_with fail
    refine (HS1.out _ kc).mono ?_; rintro e w' ⟨rfl, rfl⟩
    go_wp2_with fail
    refine bodyPost_ret (v := .tuple #[.slice none 0 0, .bool o1]) (by simp [results, Tryz.results27, go_sem]) rfl ?_
    exact RetPre.mk (ps := []) HP.out (fun e => rfl) (SqL.none0 _ _) (k1.trans kc)
   ·have hm2 := toL_ne hm
    rw [decide_eq_false hm] at HP
    clear hm
    go_wp2_with fail
    refine bodyPost_ret (v := .tuple #[.slice none 0 0, .bool false]) (by simp [results, Tryz.results27, go_sem]) rfl ?_
    exact RetPre.mk (ps := []) HP.out (fun e => rfl) (SqL.none0 _ _) (k1.trans kc)
  by_cases e12 : r = 12
  ·subst e12
   have HMP := hid (fun wz (kz : Keeps w1 wz) => modalPremise_any lg ⟨#[]⟩ ss tt HS.out HT.out _ _ wz (HA.out.keeps kz) (HC.out.keeps kz) ⟨by omega, by omega⟩ (.inl rfl))
   rw [show mdQ (lgN lg) ss tt ⟨#[]⟩ = (mopL (lgN lg) ss ⟨#[]⟩, mopR (lgN lg) tt ⟨#[]⟩) by unfold mdQ; rw [if_pos rfl]] at HMP
   have HP : Hid (preR (lgN lg) (12 : Int).toNat ss tt main = if (decide (main = ⟨#[]⟩) && decide (lgN lg = 1)) = true then some [(mopL (lgN lg) ss main, mopR (lgN lg) tt main)] else none) := hid rfl
   have eD := nmD lg
   have z0 := (HB1.out.keeps kc).cell 0 (by simp)
   have z1 := (HB1.out.keeps kc).cell 1 (by simp)
   simp only [List.getElem_cons_zero, List.getElem_cons_succ] at z0 z1
   generalize inS ss main = o8 at *
   generalize inS tt main = o9 at *
   go_wp2_with fail
   refine (HMP.out _ kc).mono ?_; rintro e w2 ⟨u2, v2, rfl, hu2, hv2, k2⟩
   obtain ⟨pu, nu, cu, rfl⟩ := hu2.sh
   obtain ⟨pv, nv, cv, rfl⟩ := hv2.sh
   have hlit := SqL.lit w2 [(.slice pu nu cu, .slice pv nv cv)] [(mopL (lgN lg) ss ⟨#[]⟩, mopR (lgN lg) tt ⟨#[]⟩)] rfl (by simp) (fun i h1 h2 => by
    obtain rfl : i = 0 := by simp at h1; omega
    exact ⟨hu2, hv2⟩)
   have HLI := hid hlit
   have KK := (k1.trans kc).trans (k2.alloc (.cells #[.slice pu nu cu, .slice pv nv cv] 26))
   clear hu2 hv2 hlit z0 z1 HMP
   by_cases hm : main = ⟨#[]⟩
   ·subst hm
    rw [decide_eq_true rfl, Bool.true_and, ← eD] at HP
    generalize hbD : (lg.toList == [68]) = bD at *
    clear eD
    go_wp2_with fail
    refine bodyPost_ret (v := .tuple #[.slice (some ⟨w2.heap.size, 0, none⟩) 1 1, .bool bD]) (by simp [results, Tryz.results27, go_sem]) rfl ?_
    exact RetPre.mk HP.out (fun e => rfl) HLI.out KK
   ·have hm2 := toL_ne hm
    rw [decide_eq_false hm] at HP
    clear hm eD
    go_wp2_with fail
    refine bodyPost_ret (v := .tuple #[.slice (some ⟨w2.heap.size, 0, none⟩) 1 1, .bool false]) (by simp [results, Tryz.results27, go_sem]) rfl ?_
    exact RetPre.mk (ps' := []) (by rw [HP.out]; rfl) (fun e => by cases e) HLI.out KK
  by_cases e14 : r = 14
  ·subst e14
   have HP : Hid (preR (lgN lg) (14 : Int).toNat ss tt main = if isTx main = true then some [(ss, insS tt main), (insS ss main, tt)] else none) := hid rfl
   generalize inS ss main = o8 at *
   generalize inS tt main = o9 at *
   go_upto_region 10 with fail
   have kd := kc.trans (Keeps.refl wc).drew
   have c0 := (HB1.out.keeps kd).cell 0 (by simp)
   have c1 := (HB1.out.keeps kd).cell 1 (by simp)
   simp only [List.getElem_cons_zero, List.getElem_cons_succ] at c0 c1
   have h0 := HA.out.keeps kd
   have h1 := HC.out.keeps kd
   refine wp_region_kinds (L := 21) (nt := 92) (ins := [3, 6]) (ds := [52, 53, 54, 55, 56, 57, 58, 59, 60, 61, 62, 63, 64, 65, 66, 67, 68, 69, 70, 8, 9]) (by kernel_rfl) (by kernel_rfl) (fun s v w' => ((fun s => if s = 3 then .val (.string main) else if s = 6 then .val (.pointer (some ⟨w.heap.size, 0, none⟩)) else if s = 8 then .sqs [(ss, insS tt (main)), (insS ss (main), tt)] else if s = 9 then .val (.bool (isTx main)) else if s = 52 then .val (.pointer (some ⟨w.heap.size, 0, none⟩)) else if s = 53 then .strs (ss) else if s = 54 then .val (.pointer (some ⟨w.heap.size, 1, none⟩)) else if s = 55 then .strs (tt) else if s = 56 then .val (.string main) else if s = 57 then .strs [main] else if s = 58 then .strs (insS tt (main)) else if s = 59 then .sq (ss) (insS tt (main)) else if s = 60 then .val (.pointer (some ⟨w.heap.size, 0, none⟩)) else if s = 61 then .strs (ss) else if s = 62 then .val (.string main) else if s = 63 then .strs [main] else if s = 64 then .strs (insS ss (main)) else if s = 65 then .val (.pointer (some ⟨w.heap.size, 1, none⟩)) else if s = 66 then .strs (tt) else if s = 67 then .sq (insS ss (main)) (tt) else if s = 68 then .sqs [(ss, insS tt (main)), (insS ss (main), tt)] else if s = 69 then .val (.string main) else if s = 70 then .val (.bool (isTx main)) else .any : Nat → Kq) s).holds v w') (fun _ _ _ _ h hv => Kq.keeps h hv) ?_ (by kernel_rfl) rfl ?_ ?_
   ·refine lK (kPure1 6 (.pointer (some ⟨w.heap.size, 0, none⟩)) (.pointer (some ⟨w.heap.size, 0, none⟩)) rfl (by kernel_rfl) rfl (fun a w1 h1 => by unfold execOp; simp only [h1, Sem.run_bind, run_fieldQ0 w.heap.size]; rfl) (fun d hd => by cases hd; rfl)) ?_
    refine lK (kLoadS 52 _ _ _ rfl rfl (by kernel_rfl) rfl c0 h0 (fun d hd => by cases hd; rfl)) ?_
    refine lK (kPure1 6 (.pointer (some ⟨w.heap.size, 0, none⟩)) (.pointer (some ⟨w.heap.size, 1, none⟩)) rfl (by kernel_rfl) rfl (fun a w1 h1 => by unfold execOp; simp only [h1, Sem.run_bind, run_fieldQ1 w.heap.size]; rfl) (fun d hd => by cases hd; rfl)) ?_
    refine lK (kLoadS 54 _ _ _ rfl rfl (by kernel_rfl) rfl c1 h1 (fun d hd => by cases hd; rfl)) ?_
    refine lK (kMove 3 (.inl rfl) rfl (by kernel_rfl) (fun d hd => by cases hd; rfl)) ?_
    refine lK (kOne 56 (main) rfl rfl (by kernel_rfl) rfl (fun d hd => by cases hd; rfl)) ?_
    refine lK (kPut1 55 57 (tt) (main) rfl rfl (by kernel_rfl) (by kernel_rfl) rfl rfl (by omega) HT.out.2 (fun d hd => by cases hd; rfl)) ?_
    refine lK (kBuild 53 58 (ss) (insS tt (main)) rfl rfl (by kernel_rfl) (by kernel_rfl) rfl rfl (fun d hd => by cases hd; rfl)) ?_
    refine lK (kPure1 6 (.pointer (some ⟨w.heap.size, 0, none⟩)) (.pointer (some ⟨w.heap.size, 0, none⟩)) rfl (by kernel_rfl) rfl (fun a w1 h1 => by unfold execOp; simp only [h1, Sem.run_bind, run_fieldQ0 w.heap.size]; rfl) (fun d hd => by cases hd; rfl)) ?_
    refine lK (kLoadS 60 _ _ _ rfl rfl (by kernel_rfl) rfl c0 h0 (fun d hd => by cases hd; rfl)) ?_
    refine lK (kMove 3 (.inl rfl) rfl (by kernel_rfl) (fun d hd => by cases hd; rfl)) ?_
    refine lK (kOne 62 (main) rfl rfl (by kernel_rfl) rfl (fun d hd => by cases hd; rfl)) ?_
    refine lK (kPut1 61 63 (ss) (main) rfl rfl (by kernel_rfl) (by kernel_rfl) rfl rfl (by omega) HS.out.2 (fun d hd => by cases hd; rfl)) ?_
    refine lK (kPure1 6 (.pointer (some ⟨w.heap.size, 0, none⟩)) (.pointer (some ⟨w.heap.size, 1, none⟩)) rfl (by kernel_rfl) rfl (fun a w1 h1 => by unfold execOp; simp only [h1, Sem.run_bind, run_fieldQ1 w.heap.size]; rfl) (fun d hd => by cases hd; rfl)) ?_
    refine lK (kLoadS 65 _ _ _ rfl rfl (by kernel_rfl) rfl c1 h1 (fun d hd => by cases hd; rfl)) ?_
    refine lK (kBuild 64 66 (insS ss (main)) (tt) rfl rfl (by kernel_rfl) (by kernel_rfl) rfl rfl (fun d hd => by cases hd; rfl)) ?_
    refine lK (kRow2 59 67 (ss) (insS tt (main)) (insS ss (main)) (tt) rfl rfl (by kernel_rfl) (by kernel_rfl) rfl rfl (fun d hd => by cases hd; rfl)) ?_
    refine lK (kMove 3 (.inl rfl) rfl (by kernel_rfl) (fun d hd => by cases hd; rfl)) ?_
    refine lK (kIsTx 69 main rfl rfl (by kernel_rfl) rfl hms (fun d hd => by cases hd; rfl)) ?_
    refine lK (kMove 68 (.inr rfl) rfl (by kernel_rfl) (fun d hd => by cases hd; rfl)) ?_
    refine lK (kMove 70 (.inr rfl) rfl (by kernel_rfl) (fun d hd => by cases hd; rfl)) True.intro
   ·intro s hs
    have : s = 3 ∨ s = 6 := by simpa using hs
    rcases this with rfl | rfl
    ·exact rfl
    ·exact rfl
   ·intro f w' hk hv
    have g8 : SqL w' (f 8) [(ss, insS tt (main)), (insS ss (main), tt)] := hv 8 (by decide)
    have g9 : f 9 = .bool (isTx main) := hv 9 (by decide)
    obtain ⟨p6, c6, e6, _⟩ := g8.shape
    rw [e6] at g8
    have G8 := hid g8
    clear g8 hv
    generalize isTx main = ok at *
    simp only [putAll, Act.put, List.setIfInBounds_toArray, List.set_cons_zero, List.set_cons_succ, e6, g9]
    clear g9
    go_wp2_with fail
    refine bodyPost_ret (v := .tuple #[.slice p6 2 c6, .bool ok]) (by simp [results, Tryz.results27, go_sem]) rfl ?_
    exact RetPre.mk HP.out (fun e => rfl) G8.out ((k1.trans kd).trans hk)
  have HSP := hid (preR_split (lgN lg) r.toNat ss tt main (fun h => by
   have htx : ∃ t, IsTx main t := by rcases h with h | h; exact HS.out.1 _ h; exact HT.out.1 _ h
   intro e
   subst e
   obtain ⟨t, ht⟩ := htx
   have h1 := ht.2.1
   have h2 := body_pos t
   rw [← h1] at h2
   exact absurd h2 (by decide)) (by omega) (by omega) (by omega) (by omega))
  have HI1 := hid (fun (h : inS ss main = true) => side_tx HS.out (inS_iff.1 h))
  have HI2 := hid (fun (h : inS tt main = true) => side_tx HT.out (inS_iff.1 h))
  have q1 : (r == 1) = false := by simpa using e1
  have q2 : (r == 2) = false := by simpa using e2
  have q12 : (r == 12) = false := by simpa using e12
  have q14 : (r == 14) = false := by simpa using e14
  generalize inS ss main = o1 at *
  generalize inS tt main = o2 at *
  generalize preR (lgN lg) r.toNat ss tt main = PR at *
  clear e1 e2 e12 e14
  cases o1
  ·cases o2
   ·go_wp2_with fail
    refine bodyPost_ret (v := .tuple #[.slice none 0 0, .bool false]) (by simp [results, Tryz.results27, go_sem]) rfl ?_
    rw [HSP.out]
    exact RetPre.mk (ps := []) (b := false) (ps' := []) rfl (fun e => by cases e) (SqL.none0 _ _) (k1.trans kc)
   ·have HTT := hid (HI2.out (by trivial))
    generalize txF main = t at *
    go_upto_region 16 with fail
    have kd := kc.trans (Keeps.refl wc).drew
    have hbx := HB1.out.keeps kd
    have h0 := HA.out.keeps kd
    have h1 := HC.out.keeps kd
    refine wp_region_kinds (L := 10) (nt := 92) (ins := [0, 1, 3, 6]) (ds := [84, 85, 86, 87, 88, 89, 90, 91, 8, 9]) (by kernel_rfl) (by kernel_rfl) (fun s v w' => ((fun s => if s = 0 then .val (.string lg) else if s = 1 then .val (.int .i64 r) else if s = 3 then .val (.string main) else if s = 6 then .val (.pointer (some ⟨w.heap.size, 0, none⟩)) else if s = 8 then rowP (rpR (lgN lg) r.toNat ss tt main) else if s = 9 then .val (.bool (rpR (lgN lg) r.toNat ss tt main).isSome) else if s = 84 then .val (.string lg) else if s = 85 then .val (.int .i64 r) else if s = 86 then .sq (ss) (tt) else if s = 87 then .val (.string main) else if s = 88 then .nd t else if s = 89 then tupP (rpR (lgN lg) r.toNat ss tt main) else if s = 90 then rowP (rpR (lgN lg) r.toNat ss tt main) else if s = 91 then .val (.bool (rpR (lgN lg) r.toNat ss tt main).isSome) else .any : Nat → Kq) s).holds v w') (fun _ _ _ _ h hv => Kq.keeps h hv) ?_ (by kernel_rfl) rfl ?_ ?_
    ·refine lK (kMove 0 (.inl rfl) rfl (by kernel_rfl) (fun d hd => by cases hd; rfl)) ?_
     refine lK (kMove 1 (.inl rfl) rfl (by kernel_rfl) (fun d hd => by cases hd; rfl)) ?_
     refine lK (kLoadQ 6 (w.heap.size) _ _ (ss) (tt) rfl rfl (by kernel_rfl) rfl hbx h0 h1 (fun d hd => by cases hd; rfl)) ?_
     refine lK (kMove 3 (.inl rfl) rfl (by kernel_rfl) (fun d hd => by cases hd; rfl)) ?_
     refine lK (kParsed 87 main t rfl rfl (by kernel_rfl) rfl HTT.out (fun d hd => by cases hd; rfl)) ?_
     refine lK (kRightP 84 85 86 88 lg r main t ss tt rfl rfl (by kernel_rfl) (by kernel_rfl) (by kernel_rfl) (by kernel_rfl) rfl rfl rfl rfl HLG.out HTT.out HS.out HT.out ⟨by omega, by omega⟩ (fun d hd => by cases hd; rfl)) ?_
     refine lK (kExt0 89 (rpR (lgN lg) r.toNat ss tt main) rfl rfl (by kernel_rfl) rfl (fun d hd => by cases hd; rfl)) ?_
     refine lK (kExt1 89 (rpR (lgN lg) r.toNat ss tt main) rfl rfl (by kernel_rfl) rfl (fun d hd => by cases hd; rfl)) ?_
     refine lK (kMove 90 (.inr rfl) rfl (by kernel_rfl) (fun d hd => by cases hd; rfl)) ?_
     refine lK (kMove 91 (.inr rfl) rfl (by kernel_rfl) (fun d hd => by cases hd; rfl)) True.intro
    ·intro s hs
     have : s = 0 ∨ s = 1 ∨ s = 3 ∨ s = 6 := by simpa using hs
     rcases this with rfl | rfl | rfl | rfl
     ·exact rfl
     ·exact rfl
     ·exact rfl
     ·exact rfl
    ·intro f w' hk hv
     have g8 : (rowP (rpR (lgN lg) r.toNat ss tt main)).holds (f 8) w' := hv 8 (by decide)
     have g9 : f 9 = .bool (rpR (lgN lg) r.toNat ss tt main).isSome := hv 9 (by decide)
     have HSP2 : Hid (PR = rpR (lgN lg) r.toNat ss tt main) := hid HSP.out
     clear hv HSP
     generalize rpR (lgN lg) r.toNat ss tt main = oR at *
     obtain ⟨p6, n6, c6, e6⟩ := g8.1
     have G8 := hid g8
     clear g8
     rw [e6] at G8
     have HFIN := hid (fun (h : (rowP oR).holds (.slice p6 n6 c6) w') (k : Keeps w w') => RetPre.ofRow h k)
     generalize oR.isSome = ok at *
     simp only [putAll, Act.put, List.setIfInBounds_toArray, List.set_cons_zero, List.set_cons_succ, e6, g9]
     clear g9
     go_wp2_with fail
     refine bodyPost_ret (v := .tuple #[.slice p6 n6 c6, .bool ok]) (by simp [results, Tryz.results27, go_sem]) rfl ?_
     rw [HSP2.out]
     exact HFIN.out G8.out ((k1.trans kd).trans hk)
  ·have HTT := hid (HI1.out (by trivial))
   go_upto_region 12 with fail
   go_cut [12, 13] from 73 to 80 (fun v12 v13 wx => (rowP (lpR (lgN lg) r.toNat ss tt main)).holds v12 wx ∧ v13 = .bool (lpR (lgN lg) r.toNat ss tt main).isSome ∧ Keeps w1 wx)
   case first =>
    generalize txF main = t at *
    have kd := kc.trans (Keeps.refl wc).drew
    have hbx := HB1.out.keeps kd
    have h0 := HA.out.keeps kd
    have h1 := HC.out.keeps kd
    refine wp_region_kinds (L := 11) (nt := 92) (ins := [0, 1, 3, 6]) (ds := [73, 74, 75, 76, 77, 78, 72, 79, 80, 12, 13]) (by kernel_rfl) (by kernel_rfl) (fun s v w' => ((fun s => if s = 0 then .val (.string lg) else if s = 1 then .val (.int .i64 r) else if s = 3 then .val (.string main) else if s = 6 then .val (.pointer (some ⟨w.heap.size, 0, none⟩)) else if s = 12 then rowP (lpR (lgN lg) r.toNat ss tt main) else if s = 13 then .val (.bool (lpR (lgN lg) r.toNat ss tt main).isSome) else if s = 72 then tupP (lpR (lgN lg) r.toNat ss tt main) else if s = 73 then .val (.string lg) else if s = 74 then .val (.int .i64 r) else if s = 75 then .sq (ss) (tt) else if s = 76 then .val (.string main) else if s = 77 then .nd t else if s = 78 then tupP (lpR (lgN lg) r.toNat ss tt main) else if s = 79 then rowP (lpR (lgN lg) r.toNat ss tt main) else if s = 80 then .val (.bool (lpR (lgN lg) r.toNat ss tt main).isSome) else .any : Nat → Kq) s).holds v w') (fun _ _ _ _ h hv => Kq.keeps h hv) ?_ (by kernel_rfl) rfl ?_ ?_
    ·refine lK (kMove 0 (.inl rfl) rfl (by kernel_rfl) (fun d hd => by cases hd; rfl)) ?_
     refine lK (kMove 1 (.inl rfl) rfl (by kernel_rfl) (fun d hd => by cases hd; rfl)) ?_
     refine lK (kLoadQ 6 (w.heap.size) _ _ (ss) (tt) rfl rfl (by kernel_rfl) rfl hbx h0 h1 (fun d hd => by cases hd; rfl)) ?_
     refine lK (kMove 3 (.inl rfl) rfl (by kernel_rfl) (fun d hd => by cases hd; rfl)) ?_
     refine lK (kParsed 76 main t rfl rfl (by kernel_rfl) rfl HTT.out (fun d hd => by cases hd; rfl)) ?_
     refine lK (kLeftP 73 74 75 77 lg r main t ss tt rfl rfl (by kernel_rfl) (by kernel_rfl) (by kernel_rfl) (by kernel_rfl) rfl rfl rfl rfl HLG.out HTT.out HS.out HT.out ⟨by omega, by omega⟩ (fun d hd => by cases hd; rfl)) ?_
     refine lK (kMove 78 (.inl rfl) rfl (by kernel_rfl) (fun d hd => by cases hd; rfl)) ?_
     refine lK (kExt0 72 (lpR (lgN lg) r.toNat ss tt main) rfl rfl (by kernel_rfl) rfl (fun d hd => by cases hd; rfl)) ?_
     refine lK (kExt1 72 (lpR (lgN lg) r.toNat ss tt main) rfl rfl (by kernel_rfl) rfl (fun d hd => by cases hd; rfl)) ?_
     refine lK (kMove 79 (.inr rfl) rfl (by kernel_rfl) (fun d hd => by cases hd; rfl)) ?_
     refine lK (kMove 80 (.inr rfl) rfl (by kernel_rfl) (fun d hd => by cases hd; rfl)) True.intro
    ·intro s hs
     have : s = 0 ∨ s = 1 ∨ s = 3 ∨ s = 6 := by simpa using hs
     rcases this with rfl | rfl | rfl | rfl
     ·exact rfl
     ·exact rfl
     ·exact rfl
     ·exact rfl
    ·intro f w' hk hv
     have g12 : (rowP (lpR (lgN lg) r.toNat ss tt main)).holds (f 12) w' := hv 12 (by decide)
     have g13 : f 13 = .bool (lpR (lgN lg) r.toNat ss tt main).isSome := hv 13 (by decide)
     have G12 := hid g12
     clear hv HSP g12
     generalize lpR (lgN lg) r.toNat ss tt main = oL at *
     generalize oL.isSome = ok at *
     simp only [putAll, Act.put, List.setIfInBounds_toArray, List.set_cons_zero, List.set_cons_succ, g13]
     clear g13
     go_wp2_with fail
     go_meet
     exact ⟨G12.out, rfl, kd.trans hk⟩
   case rest =>
    obtain ⟨g12, rfl, kx⟩ := hcut
    obtain ⟨p6, n6, c6, rfl⟩ := g12.1
    have G12 := hid g12
    clear g12
    cases hlp : lpR (lgN lg) r.toNat ss tt main with
    | some ps =>
     rw [hlp] at G12 HSP
     have HSP2 : Hid (PR = some ps) := hid HSP.out
     clear hlp HSP
     go_wp2_with fail
     refine bodyPost_ret (v := .tuple #[.slice p6 n6 c6, .bool true]) (by simp [results, Tryz.results27, go_sem]) rfl ?_
     rw [HSP2.out]
     exact RetPre.mk (b := true) (ps' := ps) rfl (fun e => rfl) (G12.out.2 ps rfl) (k1.trans kx)
    | none =>
     rw [hlp] at HSP
     have HSPx : Hid (PR = if o2 = true then rpR (lgN lg) r.toNat ss tt main else none) := hid HSP.out
     clear HSP hlp HTT
     have HSP := HSPx
     clear HSPx G12
     cases o2
     ·go_wp2_with fail
      refine bodyPost_ret (v := .tuple #[.slice none 0 0, .bool false]) (by simp [results, Tryz.results27, go_sem]) rfl ?_
      rw [HSP.out]
      exact RetPre.mk (ps := []) (b := false) (ps' := []) rfl (fun e => by cases e) (SqL.none0 _ _) (k1.trans kx)
     ·have HTT := hid (HI2.out (by trivial))
      generalize txF main = t at *
      go_upto_region 16 with fail
      have kd := kx.trans (Keeps.refl wc).drew
      have hbx := HB1.out.keeps kd
      have h0 := HA.out.keeps kd
      have h1 := HC.out.keeps kd
      refine wp_region_kinds (L := 10) (nt := 92) (ins := [0, 1, 3, 6]) (ds := [84, 85, 86, 87, 88, 89, 90, 91, 8, 9]) (by kernel_rfl) (by kernel_rfl) (fun s v w' => ((fun s => if s = 0 then .val (.string lg) else if s = 1 then .val (.int .i64 r) else if s = 3 then .val (.string main) else if s = 6 then .val (.pointer (some ⟨w.heap.size, 0, none⟩)) else if s = 8 then rowP (rpR (lgN lg) r.toNat ss tt main) else if s = 9 then .val (.bool (rpR (lgN lg) r.toNat ss tt main).isSome) else if s = 84 then .val (.string lg) else if s = 85 then .val (.int .i64 r) else if s = 86 then .sq (ss) (tt) else if s = 87 then .val (.string main) else if s = 88 then .nd t else if s = 89 then tupP (rpR (lgN lg) r.toNat ss tt main) else if s = 90 then rowP (rpR (lgN lg) r.toNat ss tt main) else if s = 91 then .val (.bool (rpR (lgN lg) r.toNat ss tt main).isSome) else .any : Nat → Kq) s).holds v w') (fun _ _ _ _ h hv => Kq.keeps h hv) ?_ (by kernel_rfl) rfl ?_ ?_
      ·refine lK (kMove 0 (.inl rfl) rfl (by kernel_rfl) (fun d hd => by cases hd; rfl)) ?_
       refine lK (kMove 1 (.inl rfl) rfl (by kernel_rfl) (fun d hd => by cases hd; rfl)) ?_
       refine lK (kLoadQ 6 (w.heap.size) _ _ (ss) (tt) rfl rfl (by kernel_rfl) rfl hbx h0 h1 (fun d hd => by cases hd; rfl)) ?_
       refine lK (kMove 3 (.inl rfl) rfl (by kernel_rfl) (fun d hd => by cases hd; rfl)) ?_
       refine lK (kParsed 87 main t rfl rfl (by kernel_rfl) rfl HTT.out (fun d hd => by cases hd; rfl)) ?_
       refine lK (kRightP 84 85 86 88 lg r main t ss tt rfl rfl (by kernel_rfl) (by kernel_rfl) (by kernel_rfl) (by kernel_rfl) rfl rfl rfl rfl HLG.out HTT.out HS.out HT.out ⟨by omega, by omega⟩ (fun d hd => by cases hd; rfl)) ?_
       refine lK (kExt0 89 (rpR (lgN lg) r.toNat ss tt main) rfl rfl (by kernel_rfl) rfl (fun d hd => by cases hd; rfl)) ?_
       refine lK (kExt1 89 (rpR (lgN lg) r.toNat ss tt main) rfl rfl (by kernel_rfl) rfl (fun d hd => by cases hd; rfl)) ?_
       refine lK (kMove 90 (.inr rfl) rfl (by kernel_rfl) (fun d hd => by cases hd; rfl)) ?_
       refine lK (kMove 91 (.inr rfl) rfl (by kernel_rfl) (fun d hd => by cases hd; rfl)) True.intro
      ·intro s hs
       have : s = 0 ∨ s = 1 ∨ s = 3 ∨ s = 6 := by simpa using hs
       rcases this with rfl | rfl | rfl | rfl
       ·exact rfl
       ·exact rfl
       ·exact rfl
       ·exact rfl
      ·intro f w' hk hv
       have g8 : (rowP (rpR (lgN lg) r.toNat ss tt main)).holds (f 8) w' := hv 8 (by decide)
       have g9 : f 9 = .bool (rpR (lgN lg) r.toNat ss tt main).isSome := hv 9 (by decide)
       have HSP2 : Hid (PR = rpR (lgN lg) r.toNat ss tt main) := hid HSP.out
       clear hv HSP
       generalize rpR (lgN lg) r.toNat ss tt main = oR at *
       obtain ⟨p6, n6, c6, e6⟩ := g8.1
       have G8 := hid g8
       clear g8
       rw [e6] at G8
       have HFIN := hid (fun (h : (rowP oR).holds (.slice p6 n6 c6) w') (k : Keeps w w') => RetPre.ofRow h k)
       generalize oR.isSome = ok at *
       simp only [putAll, Act.put, List.setIfInBounds_toArray, List.set_cons_zero, List.set_cons_succ, e6, g9]
       clear g9
       go_wp2_with fail
       refine bodyPost_ret (v := .tuple #[.slice p6 n6 c6, .bool ok]) (by simp [results, Tryz.results27, go_sem]) rfl ?_
       rw [HSP2.out]
       exact HFIN.out G8.out ((k1.trans kd).trans hk)
end Go.Proofs.YtkkcfifnkcnceaaGreat
namespace Go.Proofs.YtkkcfifnkcnceaaGreat
open Go.RowKit
theorem ite_some {α : Type} {c : Prop} [Decidable c] {a b : Option α} {x : α} {P : Prop} (h : (if c then a else b) = some x) (ha : a = some x → P) (hb : b = some x → P) : P := by
 by_cases hc : c
 ·rw [if_pos hc] at h; exact ha h
 ·rw [if_neg hc] at h; exact hb h
theorem preR_len {L r : Nat} {ss tt : List ByteArray} {main : ByteArray} {ps : List SqT} (h : preR L r ss tt main = some ps) : ps.length ≤ 2 := by
 unfold preR at h
 repeat' first | (cases h; done) | (cases h; simp; done) | (refine ite_some h ?_ ?_ <;> intro h)
open scoped Classical in
theorem implIsSeq_any (s : ByteArray) (w : World) : Calls Tryz.prog 25 #[.string s] w fun e w' => e = .returned (.bool (decide (s ∈ names7))) ∧ Keeps w w' := by
 have HS : Hid (Strs (w.alloc (.cells #[.string ⟨#[75]⟩, .string ⟨#[68]⟩, .string ⟨#[84]⟩, .string ⟨#[75, 52]⟩, .string ⟨#[83, 52]⟩, .string ⟨#[71, 76]⟩, .string ⟨#[83, 53]⟩] 9)) (.slice (some ⟨w.heap.size, 0, none⟩) 7 7) names7) := hid (Strs.lit (w := w) names7 (by simp [names7]))
 have HC := hid (containsS_any names7 s _ _ HS.out)
 have kA := (Keeps.refl w).alloc (.cells #[.string ⟨#[75]⟩, .string ⟨#[68]⟩, .string ⟨#[84]⟩, .string ⟨#[75, 52]⟩, .string ⟨#[83, 52]⟩, .string ⟨#[71, 76]⟩, .string ⟨#[83, 53]⟩] 9)
 go_enter Tryz.func25, Tryz.ntmps25
 go_wp2_with fail
 refine HC.out.mono ?_; rintro e w3 ⟨rfl, rfl⟩
 go_wp2_with fail
 go_ret
 exact ⟨rfl, kA⟩
theorem At.lit2q (w : World) (u v : Value) (T : TypeId) : At (w.alloc (.cells #[u, v] T)) (some ⟨w.heap.size, 0, none⟩) [u, v] := fun j hj => by
 have : j = 0 ∨ j = 1 := by simp at hj; omega
 rcases this with rfl | rfl
 ·exact ⟨_, 0, rfl, by simp⟩
 ·exact ⟨_, 0, rfl, by simp⟩
end Go.Proofs.YtkkcfifnkcnceaaGreat
