import Derived.Test.YtkkcfifnkcnceaaGreatHGD
/- The program's test of a step: isCorrect. -/
namespace Go.Proofs.YtkkcfifnkcnceaaGreat
open Go.RowKit
def sptr (q : SqT) : Kq := .pr (fun v w => ∃ b o x y, v = .pointer (some ⟨b, o, none⟩) ∧ w.cell? ⟨b, o, none⟩ = some x ∧ w.cell? ⟨b, o + 1, none⟩ = some y ∧ StrsP w x q.1 ∧ StrsP w y q.2) (fun _ _ _ k ⟨b, o, x, y, e, h1, h2, h3, h4⟩ => ⟨b, o, x, y, e, k.cell h1, k.cell h2, h3.keeps k, h4.keeps k⟩)
def lptr (l : List ByteArray) : Kq := .pr (fun v w => ∃ ad x, v = .pointer (some ad) ∧ w.cell? ad = some x ∧ StrsP w x l) (fun _ _ _ k ⟨ad, x, e, h1, h2⟩ => ⟨ad, x, e, k.cell h1, h2.keeps k⟩)
def stv (x : StT) : Kq := .pr (fun v w => ∃ p l q, v = .agg #[.int .i64 x.rule, p, l, q, .string x.main] ∧ (∃ a n c, p = .slice a n c) ∧ StrsP w l x.l ∧ StrsP w q x.r) (fun _ _ _ k ⟨p, l, q, e, h1, h2, h3⟩ => ⟨p, l, q, e, h1, h2.keeps k, h3.keeps k⟩)
theorem run_idxQ (b off n c i : Nat) (hi : i < n) (w : World) : (Instr.indexAt 29 (.slice (some ⟨b, off, none⟩) n c) (.int .i64 (i : Int))).run Tryz.prog w = .ok (.pointer (some ⟨b, off + i * 2, none⟩)) w := by
 simp [Instr.indexAt, go_sem, hi, Addr.add]
theorem run_fldQ0 (b o : Nat) (w : World) : (Instr.fieldAt 26 (.pointer (some ⟨b, o, none⟩)) 0).run Tryz.prog w = .ok (.pointer (some ⟨b, o, none⟩)) w := by
 simp [Instr.fieldAt, go_sem, Addr.add]
theorem run_fldQ1 (b o : Nat) (w : World) : (Instr.fieldAt 26 (.pointer (some ⟨b, o, none⟩)) 1).run Tryz.prog w = .ok (.pointer (some ⟨b, o + 1, none⟩)) w := by
 simp [Instr.fieldAt, go_sem, Addr.add]
section
variable {md : Region.Mode} {ops : Array Oper} {Q : Exit → Act → World → Prop} {nt : Nat} {ins : List Nat} {kd : Nat → Kq} {w0 : World} {o : Oper}
theorem kIdxQ (s : Nat) (ps : List SqT) (q : SqT) (ho : o.op = .indexAddr 29 (.tmp s) (.const (.int .i64 0))) (hg : o.guard = none) (h : availK md ops ins o s = true) (hs : kd s = .sqs ps) (hq : ps[0]? = some q) (hk : ∀ d, o.dst = some d → kd d = sptr q) : StQ md ops Q nt ins kd w0 o :=
 StepK.plain hg fun a w K hsa hJ hins hdep hK => by
  have hv := getK h hins hdep
  change (kd s).holds _ w at hv
  rw [hs] at hv
  have hv : SqL w (a.eval (.tmp s)) ps := hv
  obtain ⟨hi, hq⟩ := List.getElem?_eq_some_iff.1 hq
  obtain ⟨p, c, e, _⟩ := hv.shape
  rw [e] at hv
  obtain ⟨b, off, p1, n1, c1, p2, n2, c2, e2, h1, h2, h3, h4⟩ := hv.get 0 hi
  cases e2
  rw [hq] at h3 h4
  have ei : a.eval (.const (.int .i64 0)) = .int .i64 ((0 : Nat) : Int) := rfl
  unfold Oper.wp execOp
  simp only [ho, e, ei, Sem.run_bind, run_idxQ b off ps.length c 0 hi, Result.andThen_ok, Sem.run_pure]
  exact hK _ _ (Keeps.refl w) (fun d hd => by show (kd d).holds _ w; rw [hk d hd]; exact ⟨b, off + 0 * 2, _, _, rfl, h1, h2, h3, h4⟩)
theorem kFldQ0 (s : Nat) (q : SqT) (ho : o.op = .fieldAddr 26 (.tmp s) 0) (hg : o.guard = none) (h : availK md ops ins o s = true) (hs : kd s = sptr q) (hk : ∀ d, o.dst = some d → kd d = lptr q.1) : StQ md ops Q nt ins kd w0 o :=
 StepK.plain hg fun a w K hsa hJ hins hdep hK => by
  have hv := getK h hins hdep
  change (kd s).holds _ w at hv
  rw [hs] at hv
  obtain ⟨b, o', x, y, e, h1, h2, h3, h4⟩ := (hv : ∃ b o x y, a.eval (.tmp s) = .pointer (some ⟨b, o, none⟩) ∧ w.cell? ⟨b, o, none⟩ = some x ∧ w.cell? ⟨b, o + 1, none⟩ = some y ∧ StrsP w x q.1 ∧ StrsP w y q.2)
  unfold Oper.wp execOp
  simp only [ho, e, Sem.run_bind, run_fldQ0, Result.andThen_ok, Sem.run_pure]
  exact hK _ _ (Keeps.refl w) (fun d hd => by show (kd d).holds _ w; rw [hk d hd]; exact ⟨_, x, rfl, h1, h3⟩)
theorem kFldQ1 (s : Nat) (q : SqT) (ho : o.op = .fieldAddr 26 (.tmp s) 1) (hg : o.guard = none) (h : availK md ops ins o s = true) (hs : kd s = sptr q) (hk : ∀ d, o.dst = some d → kd d = lptr q.2) : StQ md ops Q nt ins kd w0 o :=
 StepK.plain hg fun a w K hsa hJ hins hdep hK => by
  have hv := getK h hins hdep
  change (kd s).holds _ w at hv
  rw [hs] at hv
  obtain ⟨b, o', x, y, e, h1, h2, h3, h4⟩ := (hv : ∃ b o x y, a.eval (.tmp s) = .pointer (some ⟨b, o, none⟩) ∧ w.cell? ⟨b, o, none⟩ = some x ∧ w.cell? ⟨b, o + 1, none⟩ = some y ∧ StrsP w x q.1 ∧ StrsP w y q.2)
  unfold Oper.wp execOp
  simp only [ho, e, Sem.run_bind, run_fldQ1, Result.andThen_ok, Sem.run_pure]
  exact hK _ _ (Keeps.refl w) (fun d hd => by show (kd d).holds _ w; rw [hk d hd]; exact ⟨_, y, rfl, h2, h4⟩)
theorem kLoadL (s : Nat) (l : List ByteArray) (ho : o.op = .load 24 (.tmp s)) (hg : o.guard = none) (h : availK md ops ins o s = true) (hs : kd s = lptr l) (hk : ∀ d, o.dst = some d → kd d = .strs l) : StQ md ops Q nt ins kd w0 o :=
 StepK.plain hg fun a w K hsa hJ hins hdep hK => by
  have hv := getK h hins hdep
  change (kd s).holds _ w at hv
  rw [hs] at hv
  obtain ⟨ad, x, e, h1, h2⟩ := (hv : ∃ ad x, a.eval (.tmp s) = .pointer (some ad) ∧ w.cell? ad = some x ∧ StrsP w x l)
  obtain ⟨p, n, c, rfl⟩ := h2.sh
  have hrun : (Instr.loadAt 24 (.pointer (some ad))).run Tryz.prog w = .ok (.slice p n c) w := by simp [Instr.loadAt, go_sem, h1]
  unfold Oper.wp execOp
  simp only [ho, e, Sem.run_bind, hrun, Result.andThen_ok, Sem.run_pure]
  exact hK _ _ (Keeps.refl w) (fun d hd => by show (kd d).holds _ w; rw [hk d hd]; exact h2)
theorem kLoadI (s : Nat) (ad : Addr) (n : Int) (ho : o.op = .load 2 (.tmp s)) (hg : o.guard = none) (h : availK md ops ins o s = true) (hs : kd s = .val (.pointer (some ad))) (hc : w0.cell? ad = some (.int .i64 n)) (hk : ∀ d, o.dst = some d → kd d = .val (.int .i64 n)) : StQ md ops Q nt ins kd w0 o :=
 StepK.plain hg fun a w K hsa hJ hins hdep hK => by
  have hv := getK h hins hdep
  change (kd s).holds _ w at hv
  rw [hs] at hv
  have hv : a.eval (.tmp s) = .pointer (some ad) := hv
  have hc' := hJ.cell hc
  have hrun : (Instr.loadAt 2 (.pointer (some ad))).run Tryz.prog w = .ok (.int .i64 n) w := by simp [Instr.loadAt, go_sem, hc']
  unfold Oper.wp execOp
  simp only [ho, hv, Sem.run_bind, hrun, Result.andThen_ok, Sem.run_pure]
  exact hK _ _ (Keeps.refl w) (fun d hd => by show (kd d).holds _ w; rw [hk d hd]; exact rfl)
theorem run_loadSt (b : Nat) (r : Int) (p q s : Option Addr) (n c m d k e : Nat) (u : ByteArray) (w : World) (hb : BoxG w b 68 [.int .i64 r, .slice p n c, .slice q m d, .slice s k e, .string u]) : (Instr.loadAt 68 (.pointer (some ⟨b, 0, none⟩))).run Tryz.prog w = .ok (.agg #[.int .i64 r, .slice p n c, .slice q m d, .slice s k e, .string u]) w := by
 have a0 := hb.cell 0 (by simp)
 have a1 := hb.cell 1 (by simp)
 have a2 := hb.cell 2 (by simp)
 have a3 := hb.cell 3 (by simp)
 have a4 := hb.cell 4 (by simp)
 simp only [List.getElem_cons_succ, List.getElem_cons_zero] at a0 a1 a2 a3 a4
 simp [Instr.loadAt, go_sem, a0, a1, a2, a3, a4]
theorem kLoadSt (s b : Nat) (x : StT) (p l q : Value) (ho : o.op = .load 68 (.tmp s)) (hg : o.guard = none) (h : availK md ops ins o s = true) (hs : kd s = .val (.pointer (some ⟨b, 0, none⟩))) (hb : StB w0 b x p l q) (hk : ∀ d, o.dst = some d → kd d = stv x) : StQ md ops Q nt ins kd w0 o :=
 StepK.plain hg fun a w K hsa hJ hins hdep hK => by
  have hv := getK h hins hdep
  change (kd s).holds _ w at hv
  rw [hs] at hv
  have hv : a.eval (.tmp s) = .pointer (some ⟨b, 0, none⟩) := hv
  have hb' := hb.keeps hJ
  obtain ⟨p1, c1, rfl, _⟩ := hb'.pr.sh5
  obtain ⟨p2, n2, c2, rfl⟩ := hb'.sl.sh
  obtain ⟨p3, n3, c3, rfl⟩ := hb'.sr.sh
  unfold Oper.wp execOp
  simp only [ho, hv, Sem.run_bind, run_loadSt b _ _ _ _ _ _ _ _ _ _ _ w hb'.box, Result.andThen_ok, Sem.run_pure]
  exact hK _ _ (Keeps.refl w) (fun d hd => by show (kd d).holds _ w; rw [hk d hd]; exact ⟨_, _, _, rfl, ⟨_, _, _, rfl⟩, hb'.sl, hb'.sr⟩)
theorem enters_seqm : Enters 47 := fun _ _ => by kernel_rfl
theorem kSeqm (s : Nat) (x : StT) (ho : o.op = .call { callee := .value (.func 47), args := #[.tmp s], argTypes := #[68] }) (hg : o.guard = none) (h : availK md ops ins o s = true) (hs : kd s = stv x) (hk : ∀ d, o.dst = some d → kd d = .sq x.l x.r) : StQ md ops Q nt ins kd w0 o :=
 kCall 47 _ _ ho enters_seqm hg (fun a w1 _ hv => by
  have g1 := hv s h
  rw [hs] at g1
  obtain ⟨p, l, q, e, ⟨p1, n1, c1, rfl⟩, h2, h3⟩ := (g1 : ∃ p l q, a.eval (.tmp s) = .agg #[.int .i64 x.rule, p, l, q, .string x.main] ∧ (∃ a n c, p = .slice a n c) ∧ StrsP w1 l x.l ∧ StrsP w1 q x.r)
  obtain ⟨p2, n2, c2, rfl⟩ := h2.sh
  obtain ⟨p3, n3, c3, rfl⟩ := h3.sh
  rw [map1, e]
  refine (sequent_any x.rule p1 p2 p3 n1 c1 n2 c2 n3 c3 x.main w1).mono ?_
  rintro e w2 ⟨rfl, k2⟩
  exact ⟨_, rfl, k2, fun d hd => by rw [hk d hd]; exact ⟨_, _, rfl, h2.keeps k2, h3.keeps k2⟩⟩)
theorem enters_subset : Enters 51 := fun _ _ => by kernel_rfl
theorem kSubset (s s' : Nat) (P X : List ByteArray) (b : Bool) (hb : subS P X = b) (ho : o.op = .call { callee := .value (.func 51), args := #[.tmp s, .tmp s'], argTypes := #[24, 24] }) (hg : o.guard = none) (h : availK md ops ins o s = true) (h' : availK md ops ins o s' = true) (hs : kd s = .strs P) (hs' : kd s' = .strs X) (hk : ∀ d, o.dst = some d → kd d = .val (.bool b)) : StQ md ops Q nt ins kd w0 o :=
 kCall 51 _ _ ho enters_subset hg (fun a w1 _ hv => by
  have g1 := hv s h
  have g2 := hv s' h'
  rw [hs] at g1
  rw [hs'] at g2
  have g1 : StrsP w1 (a.eval (.tmp s)) P := g1
  have g2 : StrsP w1 (a.eval (.tmp s')) X := g2
  rw [map2]
  refine (subset_any P X _ _ w1 g1.1 g2.1).mono ?_
  rintro e w2 ⟨rfl, k2⟩
  exact ⟨_, rfl, k2, fun d hd => by rw [hk d hd, hb]; exact rfl⟩)
theorem enters_prem : Enters 27 := fun _ _ => by kernel_rfl
theorem kPrem (s1 s2 s3 s4 : Nat) (lg : ByteArray) (r : Int) (main : ByteArray) (ss tt : List ByteArray) (ho : o.op = .call { callee := .value (.func 27), args := #[.tmp s1, .tmp s2, .tmp s3, .tmp s4], argTypes := #[9, 2, 26, 9] }) (hg : o.guard = none) (h1 : availK md ops ins o s1 = true) (h2 : availK md ops ins o s2 = true) (h3 : availK md ops ins o s3 = true) (h4 : availK md ops ins o s4 = true)
  (e1 : kd s1 = .val (.string lg)) (e2 : kd s2 = .val (.int .i64 r)) (e3 : kd s3 = .sq ss tt) (e4 : kd s4 = .val (.string main)) (hlg : lg ∈ names7) (hs : Side ss) (ht : Side tt) (hl : ss.length ≤ 1000 ∧ tt.length ≤ 1000) (hms : main.size ≤ 10000000) (hk : ∀ d, o.dst = some d → kd d = tupP (preR (lgN lg) r.toNat ss tt main)) : StQ md ops Q nt ins kd w0 o :=
 kCall 27 _ _ ho enters_prem hg (fun a w1 _ hv => by
  have g1 := hv s1 h1
  have g2 := hv s2 h2
  have g3 := hv s3 h3
  have g4 := hv s4 h4
  rw [e1] at g1
  rw [e2] at g2
  rw [e3] at g3
  rw [e4] at g4
  have g1 : a.eval (.tmp s1) = .string lg := g1
  have g2 : a.eval (.tmp s2) = .int .i64 r := g2
  have g4 : a.eval (.tmp s4) = .string main := g4
  obtain ⟨x, y, g3, hx, hy⟩ := g3
  rw [map4', g1, g2, g3, g4]
  refine (premisesOf_any lg r main hlg ss tt hs ht x y w1 hx hy hl hms).mono ?_
  rintro e w2 hR
  obtain ⟨v, rfl, k2, h⟩ := hR.tup
  exact ⟨v, rfl, k2, fun d hd => by rw [hk d hd]; exact h⟩)
theorem run_lenQ (T : TypeId) (p : Option Addr) (n c : Nat) (w : World) : (Builtin.len_ #[29] T #[.slice p n c]).run Tryz.prog w = .ok (.int .i64 (n : Int)) w := by kernel_rfl
theorem kLenQ (s : Nat) (ps : List SqT) (ho : o.op = .call { callee := .builtin .len, args := #[.tmp s], argTypes := #[29] }) (hg : o.guard = none) (h : availK md ops ins o s = true) (hs : kd s = .sqs ps) (hk : ∀ d, o.dst = some d → kd d = .val (.int .i64 ((ps.length : Nat) : Int))) : StQ md ops Q nt ins kd w0 o :=
 StepK.plain hg fun a w K hsa hJ hins hdep hK => by
  have hv := getK h hins hdep
  change (kd s).holds _ w at hv
  rw [hs] at hv
  have hv : SqL w (a.eval (.tmp s)) ps := hv
  obtain ⟨p, c, e, _⟩ := hv.shape
  unfold Oper.wp execOp
  simp only [ho, resolve, invoke, builtin, Sem.run_bind, Sem.run_pure, Result.andThen_ok, List.map_toArray, List.map_cons, List.map_nil, e, run_lenQ]
  exact hK _ _ (Keeps.refl w) (fun d hd => by show (kd d).holds _ w; rw [hk d hd]; exact rfl)
theorem kEq1 (s n : Nat) (b : Bool) (hb : decide (n = 1) = b) (ho : o.op = .binOp .eql 3 (.tmp s) (.const (.int .i64 1)) 3) (hg : o.guard = none) (h : availK md ops ins o s = true) (hs : kd s = .val (.int .i64 (n : Int))) (hk : ∀ d, o.dst = some d → kd d = .val (.bool b)) : StQ md ops Q nt ins kd w0 o :=
 kPure1 s _ (.bool b) hg h hs (fun a w e1 => by
  unfold execOp
  have ec : a.eval (.const (.int .i64 1)) = .int .i64 ((1 : Nat) : Int) := rfl
  simp only [ho, e1, ec, Sem.run_bind, run_eqN n 1]
  rw [hb]
  rfl) hk
theorem run_eqS (m : ByteArray) (w : World) : (binOp .eql 9 (.string m) (.string ⟨#[]⟩)).run Tryz.prog w = .ok (.bool (m.toList == [])) w := by
 have h : (binOp .eql 9 (.string m) (.string ⟨#[]⟩)).run Tryz.prog w = .ok (.bool (m.toList == (⟨#[]⟩ : ByteArray).toList)) w := by kernel_rfl
 rw [h, show (⟨#[]⟩ : ByteArray).toList = [] from ByteArray.toList_eq _]
theorem kEqS (s : Nat) (m : ByteArray) (b : Bool) (hb : (m.toList == []) = b) (ho : o.op = .binOp .eql 9 (.tmp s) (.const (.string ⟨#[]⟩)) 9) (hg : o.guard = none) (h : availK md ops ins o s = true) (hs : kd s = .val (.string m)) (hk : ∀ d, o.dst = some d → kd d = .val (.bool b)) : StQ md ops Q nt ins kd w0 o :=
 kPure1 s _ (.bool b) hg h hs (fun a w e1 => by
  unfold execOp
  have ec : a.eval (.const (.string ⟨#[]⟩)) = .string ⟨#[]⟩ := rfl
  simp only [ho, e1, ec, Sem.run_bind, run_eqS m]
  rw [hb]
  rfl) hk
end
open scoped Classical in
set_option maxRecDepth 100000 in
set_option maxHeartbeats 8000000 in
theorem isCorrect_any (lg : ByteArray) (hlg : lg ∈ names7) (bef : List StT) (x : StT) (hm : Mid x.l ∧ Mid x.r ∧ x.main.size ≤ 10000000) (v p l q : Value) (w : World) (hv : StL w v bef) (hp : Ints w p x.pr) (hl : StrsP w l x.l) (hr : StrsP w q x.r) :
  Calls Tryz.prog 136 #[.string lg, v, .agg #[.int .i64 x.rule, p, l, q, .string x.main]] w fun e w' => e = .returned (.bool (corB (lgN lg) bef bef.length x)) ∧ Keeps w w' := by
 obtain ⟨p1, c1, rfl, hpl⟩ := hp.sh5
 obtain ⟨p2, n2, c2, rfl⟩ := hl.sh
 obtain ⟨p3, n3, c3, rfl⟩ := hr.sh
 obtain ⟨m1, m2, m3⟩ := hm
 have kA := (Keeps.refl w).alloc (.cells #[.int .i64 x.rule, .slice p1 x.pr.length c1, .slice p2 n2 c2, .slice p3 n3 c3, .string x.main] 68)
 have HX := hid (StB.made w x _ _ _ hp hl hr)
 have HV := hid (hv.keeps kA)
 obtain ⟨pv, cv, rfl, hle, hmx, hvl⟩ := hv.shape
 unfold maxLen at hmx
 have HE : Hid (corB (lgN lg) bef bef.length x = (isQ x.l x.r && (x.pr.all (fun i => inR i 0 ((bef.length : Int) - 1)) && fitB (lgN lg) bef x))) := hid rfl
 generalize corB (lgN lg) bef bef.length x = R at *
 have HLG := hid hlg
 have HSE := hid (fun wz => sequent_any x.rule p1 p2 p3 x.pr.length c1 n2 c2 n3 c3 x.main wz)
 have HM1 := hid m1
 have HM2 := hid m2
 clear hv hp hl hr hlg m1 m2
 go_enter Tryz.func136, Tryz.ntmps136
 go_upto_region 1 with fail
 generalize w.alloc (.cells #[.int .i64 x.rule, .slice p1 x.pr.length c1, .slice p2 n2 c2, .slice p3 n3 c3, .string x.main] 68) = w1 at *
 have HIS := hid (fun wz (kz : Keeps w1 wz) => isModalSequent_any x.l x.r _ _ wz (HX.out.keeps kz).sl.1 (HX.out.keeps kz).sr.1 HM1.out HM2.out)
 obtain ⟨y0, y1, y2, y3, y4⟩ := HX.out.cells
 go_wp2_with fail
 refine (HSE.out _).mono ?_; rintro e w2 ⟨rfl, k2⟩
 go_wp2_with fail
 refine (HIS.out _ k2).mono ?_; rintro e w3 ⟨rfl, k3⟩
 have HX3 := hid ((HX.out.keeps k2).keeps k3)
 have HV3 := hid ((HV.out.keeps k2).keeps k3)
 have K3 := (kA.trans k2).trans k3
 clear y0 y1 y2 y3 y4 HX HV HIS HSE kA k2 k3
 cases hq : isQ x.l x.r
 ·rw [hq] at HE
  have HR : Hid (R = false) := hid HE.out
  clear HE hq
  go_wp2_with fail
  go_ret
  exact ⟨ret_bool HR.out.symm, K3⟩
 ·obtain ⟨l1, l2, s1, s2⟩ := isQ_iff hq
  rw [hq, Bool.true_and] at HE
  have HS1 := hid s1
  have HS2 := hid s2
  clear hq s1 s2
  obtain ⟨y0, y1, y2, y3, y4⟩ := HX3.out.cells
  obtain ⟨npr, hnp⟩ : ∃ npr, npr = x.pr.length := ⟨_, rfl⟩
  rw [← hnp] at y1 hpl
  have HNP := hid hnp
  rw [← hnp]
  clear hnp
  go_wp2_with fail
  go_loopw [7, 19] (fun g i' wr => ∃ i : Nat, i ≤ npr ∧ i' = .int .i64 i ∧ SqR w3 wr w3.heap.size g ((x.pr.take i).map (seqAt bef)) ∧ (∀ j (h : j < x.pr.length), j < i → inR x.pr[j] 0 ((bef.length : Int) - 1) = true) ∧ Keeps w3 wr) (fun _ i' _ => npr - (intOf i').toNat)
  case atStart => exact ⟨0, by omega, rfl, by simpa using SqR.nil w3 w3 w3.heap.size, fun j _ h => by omega, Keeps.refl _⟩
  case round =>
   obtain ⟨i, hi, rfl, hgr, hall, kw⟩ := hrel
   have HA := hid hall
   have HG := hid hgr
   clear hall hgr
   by_cases hlt : i < npr
   ·have hlt' : (i : Int) < npr := by omega
    have hix : i < x.pr.length := by have := HNP.out; omega
    obtain ⟨bp, op, ep, zp⟩ := (HX3.out.keeps kw).pr.int i hix
    cases ep
    have HI := hid (fun wz => inRange_any x.pr[i] 0 ((bef.length : Int) - 1) wz)
    have HYES : Hid (inR x.pr[i] 0 ((bef.length : Int) - 1) = true → ∀ j (h : j < x.pr.length), j < i + 1 → inR x.pr[j] 0 ((bef.length : Int) - 1) = true) := hid (fun h j hj hji => by
     by_cases e : j = i
     ·subst e; exact h
     ·exact HA.out j hj (by omega))
    have HNO : Hid (inR x.pr[i] 0 ((bef.length : Int) - 1) = false → R = false) := hid (fun h => by
     rw [HE.out, show x.pr.all (fun i => inR i 0 ((bef.length : Int) - 1)) = false from List.all_eq_false.2 ⟨x.pr[i], List.getElem_mem hix, by rw [h]; simp⟩, Bool.false_and])
    have HTK : Hid ((x.pr.take (i + 1)).map (seqAt bef) = (x.pr.take i).map (seqAt bef) ++ [seqAt bef x.pr[i]]) := hid (by rw [List.take_succ_eq_append_getElem hix, List.map_append]; rfl)
    have HRG : Hid (inR x.pr[i] 0 ((bef.length : Int) - 1) = true → 0 ≤ x.pr[i] ∧ x.pr[i].toNat < bef.length) := hid (fun h => by
     unfold inR at h
     have := of_decide_eq_true h
     omega)
    have hgl : ((x.pr.take i).map (seqAt bef)).length ≤ npr := by simp; omega
    have HGL := hid hgl
    generalize hpi : x.pr[i] = pi at *
    generalize inR pi 0 ((bef.length : Int) - 1) = bb at *
    clear hpi hgl
    cases bb
    ·have HR := hid (HNO.out rfl)
     clear HNO HYES HE HTK HRG
     go_wp2_with fail
     refine (HI.out _).mono ?_; rintro e w' ⟨rfl, rfl⟩
     go_wp2_with fail
     go_ret
     exact ⟨ret_bool HR.out.symm, K3.trans kw⟩
    ·have HA2 := hid (HYES.out rfl)
     obtain ⟨h0, h1⟩ := HRG.out rfl
     obtain ⟨j0, hj0⟩ : ∃ j0 : Nat, pi = (j0 : Int) := ⟨pi.toNat, by omega⟩
     subst hj0
     rw [Int.toNat_natCast] at h1
     have hsq : seqAt bef ((j0 : Nat) : Int) = (bef[j0].l, bef[j0].r) := by
      unfold seqAt
      rw [stAt_get h0 (by rw [Int.toNat_natCast]; exact h1)]
      rfl
     rw [hsq] at HTK
     obtain ⟨b', o', q1, u1, e1, q2, u2, e2, q3, u3, e3, eo, ⟨f0, f1, f2, f3, f4⟩, -, jl, jr⟩ := (HV3.out).get j0 h1
     cases eo
     have hjj : (j0 : Int) < bef.length := by omega
     have HJ := hid (And.intro jl jr)
     replace f0 := kw.cell f0
     replace f1 := kw.cell f1
     replace f2 := kw.cell f2
     replace f3 := kw.cell f3
     replace f4 := kw.cell f4
     have HSJ := hid (fun wz => sequent_any bef[j0].rule q1 q2 q3 u1 e1 u2 e2 u3 e3 bef[j0].main wz)
     clear HNO HYES HRG hsq jl jr h0 HE
     generalize bef[j0] = y at *
     generalize (x.pr.take i).map (seqAt bef) = GV at *
     go_wp2_with fail
     refine (HI.out _).mono ?_; rintro e w' ⟨rfl, rfl⟩
     go_wp2_with fail
     refine (HSJ.out _).mono ?_; rintro e w5 ⟨rfl, k5⟩
     have k6 := k5.alloc (.cells #[.slice q2 u2 e2, .slice q3 u3 e3] 26)
     have hG6 := HG.out.keeps k6
     have hat := At.lit2q w5 (.slice q2 u2 e2) (.slice q3 u3 e3) 26
     have K6 := kw.trans k6
     have hs6 := K6.size
     clear f0 f1 f2 f3 f4
     go_wp2_with (at_builtin; refine appR rfl (.tmp 29) (.tmp 35) rfl w3.heap.size _ GV rfl hG6 _ _ _ _ y.l y.r rfl hat HJ.out.1 HJ.out.2 hs6 (by have := HGL.out; omega) ?_; intro v7 w7 hv7 hg7 hr7)
     have K7 := K6.grown hg7 hr7
     go_roundw
     case rel => exact ⟨i + 1, by omega, by go_num, by rw [HTK.out]; exact hv7, HA2.out, K7⟩
     case measure => simp [intOf]; omega
   ·obtain rfl : i = npr := by omega
    have hlt' : ¬ ((i : Int) < i) := by omega
    obtain ⟨gv, hgv⟩ : ∃ gv, x.pr.map (seqAt bef) = gv := ⟨_, rfl⟩
    have hgq : SqL wr _ gv := HG.out.sql kw (by simp; omega) |> (fun h => by rw [List.take_of_length_le (by have := HNP.out; omega), hgv] at h; exact h)
    have hgl : gv.length = x.pr.length := by rw [← hgv, List.length_map]
    obtain ⟨pg, cg, eg, _⟩ := hgq.shape
    subst eg
    have HGQ := hid hgq
    have HGL := hid hgl
    have HGV := hid hgv
    have HE2 : Hid (R = fitB (lgN lg) bef x) := hid (by
     rw [HE.out, show x.pr.all (fun i => inR i 0 ((bef.length : Int) - 1)) = true from List.all_eq_true.2 (fun q hq => by
      obtain ⟨j, hj, rfl⟩ := List.getElem_of_mem hq
      exact HA.out j hj (by have := HNP.out; omega)), Bool.true_and])
    have HXR := hid (HX3.out.keeps kw)
    clear hgq hgl hgv HG HA HE y0 y1 y2 y3 y4
    obtain ⟨y0, y1, y2, y3, y4⟩ := HXR.out.cells
    by_cases hr13 : x.rule = 13
    ·rw [hr13] at y0
     have HE3 : Hid (R = (decide (x.pr.length = 1) && decide (x.main = ⟨#[]⟩) && (subS (stAt bef (x.pr.getD 0 0)).l x.l && subS (stAt bef (x.pr.getD 0 0)).r x.r))) := hid (by
      rw [HE2.out]
      unfold fitB
      rw [if_pos hr13])
     clear HE2 hr13
     go_upto_region 12 with fail
     have kd := (Keeps.refl wr).drew
     have KD := kw.trans kd
     have hbx := HXR.out.keeps kd
     obtain ⟨-, -, c2', c3', c4⟩ := hbx.cells
     have sl := hbx.sl
     have sr := hbx.sr
     have i7 := HGQ.out.keeps kd
     obtain ⟨rx, hrx⟩ : ∃ rx, rx = w.heap.size := ⟨_, rfl⟩
     rw [← hrx] at c2' c3' c4 hbx ⊢
     clear hrx y0 y1 y2 y3 y4
     by_cases hm0 : x.main = ⟨#[]⟩
     ·have hb0 : (x.main.toList == []) = true := by rw [hm0, ByteArray.toList_eq]; rfl
      by_cases hg1 : gv.length = 1
      ·have hb1 : decide (gv.length = 1) = true := decide_eq_true hg1
       obtain ⟨q0, hq0⟩ : ∃ q0, gv[0]? = some q0 := ⟨gv[0]'(by omega), List.getElem?_eq_getElem (by omega)⟩
       have hqe : q0 = seqAt bef (x.pr.getD 0 0) := by
        have := HGV.out
        rw [← this, List.getElem?_map] at hq0
        have h0 : 0 < x.pr.length := by have := HGL.out; omega
        rw [List.getElem?_eq_getElem h0] at hq0
        rw [List.getD_eq_getElem?_getD, List.getElem?_eq_getElem h0]
        exact (Option.some.inj hq0).symm
       have HE4 : Hid (R = (subS q0.1 x.l && subS q0.2 x.r)) := hid (by
        rw [HE3.out, decide_eq_true (by have := HGL.out; omega), decide_eq_true hm0, hqe]
        rfl)
       clear HE3 hqe hm0 hg1
       generalize hs2 : subS q0.2 x.r = b2 at *
       generalize hs1 : subS q0.1 x.l = s1 at *
       have HRR := hid HE4.out
       clear HE4
       cases s1
       ·refine wp_region_kinds (L := 27) (nt := 84) (ins := [5, 7]) (ds := [41, 42, 43, 44, 45, 46, 47, 48, 49, 50, 51, 52, 53, 54, 55, 56, 57, 58, 59, 60, 61, 62, 63, 64, 65, 66, 6]) (by kernel_rfl) (by kernel_rfl) (fun s v w' => ((fun s => if s = 5 then .val (.pointer (some ⟨rx, 0, none⟩)) else if s = 6 then .val (.bool false) else if s = 7 then .sqs gv else if s = 41 then .val (.pointer (some ⟨rx, 4, none⟩)) else if s = 42 then .val (.string x.main) else if s = 43 then .val (.bool true) else if s = 44 then .val (.bool true) else if s = 45 then .sqs gv else if s = 46 then .val (.int .i64 ((gv.length : Nat) : Int)) else if s = 47 then .val (.bool true) else if s = 48 then .val (.bool true) else if s = 49 then .val (.bool true) else if s = 50 then .sqs gv else if s = 51 then sptr q0 else if s = 52 then lptr (q0.1) else if s = 53 then .strs (q0.1) else if s = 54 then .val (.pointer (some ⟨rx, 2, none⟩)) else if s = 55 then .strs (x.l) else if s = 56 then .val (.bool false) else if s = 57 then .val (.bool false) else if s = 58 then .val (.bool false) else if s = 66 then .val (.bool false) else .any : Nat → Kq) s).holds v w') (fun _ _ _ _ h hv => Kq.keeps h hv) ?_ (by kernel_rfl) rfl ?_ ?_
        ·refine lK (kPure1 5 (.pointer (some ⟨rx, 0, none⟩)) (.pointer (some ⟨rx, 4, none⟩)) rfl (by kernel_rfl) rfl (fun a w1 h1 => by unfold execOp; simp only [h1, Sem.run_bind, run_fieldSt4 rx]; rfl) (fun d hd => by cases hd; rfl)) ?_
         refine lK (kLoadT 41 _ _ rfl rfl (by kernel_rfl) rfl c4 (fun d hd => by cases hd; rfl)) ?_
         refine lK (kEqS 42 x.main true hb0 rfl rfl (by kernel_rfl) rfl (fun d hd => by cases hd; rfl)) ?_
         refine lK (kMove 43 (.inl rfl) rfl (by kernel_rfl) (fun d hd => by cases hd; rfl)) ?_
         refine lK (kOn 3 44 true rfl rfl (by decide) (by kernel_rfl) rfl (kMove 7 (.inl rfl) rfl (by kernel_rfl) (fun d hd => by cases hd; rfl))) ?_
         refine lK (kOn 3 44 true rfl rfl (by decide) (by kernel_rfl) rfl (kLenQ 45 gv rfl rfl (by kernel_rfl) rfl (fun d hd => by cases hd; rfl))) ?_
         refine lK (kOn 3 44 true rfl rfl (by decide) (by kernel_rfl) rfl (kEq1 46 gv.length true hb1 rfl rfl (by kernel_rfl) rfl (fun d hd => by cases hd; rfl))) ?_
         refine lK (kPickT 44 47 _ (.bool true) rfl rfl (by kernel_rfl) (by kernel_rfl) rfl rfl (fun d hd => by cases hd; rfl)) ?_
         refine lK (kMove 48 (.inl rfl) rfl (by kernel_rfl) (fun d hd => by cases hd; rfl)) ?_
         refine lK (kOn 8 49 true rfl rfl (by decide) (by kernel_rfl) rfl (kMove 7 (.inl rfl) rfl (by kernel_rfl) (fun d hd => by cases hd; rfl))) ?_
         refine lK (kOn 8 49 true rfl rfl (by decide) (by kernel_rfl) rfl (kIdxQ 50 gv q0 rfl rfl (by kernel_rfl) rfl hq0 (fun d hd => by cases hd; rfl))) ?_
         refine lK (kOn 8 49 true rfl rfl (by decide) (by kernel_rfl) rfl (kFldQ0 51 q0 rfl rfl (by kernel_rfl) rfl (fun d hd => by cases hd; rfl))) ?_
         refine lK (kOn 8 49 true rfl rfl (by decide) (by kernel_rfl) rfl (kLoadL 52 (q0.1) rfl rfl (by kernel_rfl) rfl (fun d hd => by cases hd; rfl))) ?_
         refine lK (kOn 8 49 true rfl rfl (by decide) (by kernel_rfl) rfl (kPure1 5 (.pointer (some ⟨rx, 0, none⟩)) (.pointer (some ⟨rx, 2, none⟩)) rfl (by kernel_rfl) rfl (fun a w1 h1 => by unfold execOp; simp only [h1, Sem.run_bind, run_fieldSt2 rx]; rfl) (fun d hd => by cases hd; rfl))) ?_
         refine lK (kOn 8 49 true rfl rfl (by decide) (by kernel_rfl) rfl (kLoadS 54 _ _ _ rfl rfl (by kernel_rfl) rfl c2' sl (fun d hd => by cases hd; rfl))) ?_
         refine lK (kOn 8 49 true rfl rfl (by decide) (by kernel_rfl) rfl (kSubset 53 55 (q0.1) (x.l) false hs1 rfl rfl (by kernel_rfl) (by kernel_rfl) rfl rfl (fun d hd => by cases hd; rfl))) ?_
         refine lK (kPickT 49 56 _ (.bool false) rfl rfl (by kernel_rfl) (by kernel_rfl) rfl rfl (fun d hd => by cases hd; rfl)) ?_
         refine lK (kMove 57 (.inl rfl) rfl (by kernel_rfl) (fun d hd => by cases hd; rfl)) ?_
         refine lK (kOff 17 58 false rfl rfl (by decide) (by kernel_rfl) rfl (fun d hd => by cases hd; rfl)) ?_
         refine lK (kOff 17 58 false rfl rfl (by decide) (by kernel_rfl) rfl (fun d hd => by cases hd; rfl)) ?_
         refine lK (kOff 17 58 false rfl rfl (by decide) (by kernel_rfl) rfl (fun d hd => by cases hd; rfl)) ?_
         refine lK (kOff 17 58 false rfl rfl (by decide) (by kernel_rfl) rfl (fun d hd => by cases hd; rfl)) ?_
         refine lK (kOff 17 58 false rfl rfl (by decide) (by kernel_rfl) rfl (fun d hd => by cases hd; rfl)) ?_
         refine lK (kOff 17 58 false rfl rfl (by decide) (by kernel_rfl) rfl (fun d hd => by cases hd; rfl)) ?_
         refine lK (kOff 17 58 false rfl rfl (by decide) (by kernel_rfl) rfl (fun d hd => by cases hd; rfl)) ?_
         refine lK (kPickF 58 _ (.bool false) rfl rfl (by kernel_rfl) rfl (fun d hd => by cases hd; rfl)) ?_
         refine lK (kMove 66 (.inr rfl) rfl (by kernel_rfl) (fun d hd => by cases hd; rfl)) True.intro
        ·intro s hs
         have : s = 5 ∨ s = 7 := by simpa using hs
         rcases this with rfl | rfl
         ·exact rfl
         ·exact i7
        ·intro f w' hk hv
         have g6 : f 6 = .bool false := hv 6 (by decide)
         clear hv
         skip
         simp only [putAll, Act.put, List.setIfInBounds_toArray, List.set_cons_zero, List.set_cons_succ, g6]
         clear g6
         go_wp2_with fail
         go_ret
         exact ⟨ret_bool (by rw [HRR.out]; try rfl), (K3.trans KD).trans hk⟩
       ·refine wp_region_kinds (L := 27) (nt := 84) (ins := [5, 7]) (ds := [41, 42, 43, 44, 45, 46, 47, 48, 49, 50, 51, 52, 53, 54, 55, 56, 57, 58, 59, 60, 61, 62, 63, 64, 65, 66, 6]) (by kernel_rfl) (by kernel_rfl) (fun s v w' => ((fun s => if s = 5 then .val (.pointer (some ⟨rx, 0, none⟩)) else if s = 6 then .val (.bool b2) else if s = 7 then .sqs gv else if s = 41 then .val (.pointer (some ⟨rx, 4, none⟩)) else if s = 42 then .val (.string x.main) else if s = 43 then .val (.bool true) else if s = 44 then .val (.bool true) else if s = 45 then .sqs gv else if s = 46 then .val (.int .i64 ((gv.length : Nat) : Int)) else if s = 47 then .val (.bool true) else if s = 48 then .val (.bool true) else if s = 49 then .val (.bool true) else if s = 50 then .sqs gv else if s = 51 then sptr q0 else if s = 52 then lptr (q0.1) else if s = 53 then .strs (q0.1) else if s = 54 then .val (.pointer (some ⟨rx, 2, none⟩)) else if s = 55 then .strs (x.l) else if s = 56 then .val (.bool true) else if s = 57 then .val (.bool true) else if s = 58 then .val (.bool true) else if s = 59 then .sqs gv else if s = 60 then sptr q0 else if s = 61 then lptr (q0.2) else if s = 62 then .strs (q0.2) else if s = 63 then .val (.pointer (some ⟨rx, 3, none⟩)) else if s = 64 then .strs (x.r) else if s = 65 then .val (.bool b2) else if s = 66 then .val (.bool b2) else .any : Nat → Kq) s).holds v w') (fun _ _ _ _ h hv => Kq.keeps h hv) ?_ (by kernel_rfl) rfl ?_ ?_
        ·refine lK (kPure1 5 (.pointer (some ⟨rx, 0, none⟩)) (.pointer (some ⟨rx, 4, none⟩)) rfl (by kernel_rfl) rfl (fun a w1 h1 => by unfold execOp; simp only [h1, Sem.run_bind, run_fieldSt4 rx]; rfl) (fun d hd => by cases hd; rfl)) ?_
         refine lK (kLoadT 41 _ _ rfl rfl (by kernel_rfl) rfl c4 (fun d hd => by cases hd; rfl)) ?_
         refine lK (kEqS 42 x.main true hb0 rfl rfl (by kernel_rfl) rfl (fun d hd => by cases hd; rfl)) ?_
         refine lK (kMove 43 (.inl rfl) rfl (by kernel_rfl) (fun d hd => by cases hd; rfl)) ?_
         refine lK (kOn 3 44 true rfl rfl (by decide) (by kernel_rfl) rfl (kMove 7 (.inl rfl) rfl (by kernel_rfl) (fun d hd => by cases hd; rfl))) ?_
         refine lK (kOn 3 44 true rfl rfl (by decide) (by kernel_rfl) rfl (kLenQ 45 gv rfl rfl (by kernel_rfl) rfl (fun d hd => by cases hd; rfl))) ?_
         refine lK (kOn 3 44 true rfl rfl (by decide) (by kernel_rfl) rfl (kEq1 46 gv.length true hb1 rfl rfl (by kernel_rfl) rfl (fun d hd => by cases hd; rfl))) ?_
         refine lK (kPickT 44 47 _ (.bool true) rfl rfl (by kernel_rfl) (by kernel_rfl) rfl rfl (fun d hd => by cases hd; rfl)) ?_
         refine lK (kMove 48 (.inl rfl) rfl (by kernel_rfl) (fun d hd => by cases hd; rfl)) ?_
         refine lK (kOn 8 49 true rfl rfl (by decide) (by kernel_rfl) rfl (kMove 7 (.inl rfl) rfl (by kernel_rfl) (fun d hd => by cases hd; rfl))) ?_
         refine lK (kOn 8 49 true rfl rfl (by decide) (by kernel_rfl) rfl (kIdxQ 50 gv q0 rfl rfl (by kernel_rfl) rfl hq0 (fun d hd => by cases hd; rfl))) ?_
         refine lK (kOn 8 49 true rfl rfl (by decide) (by kernel_rfl) rfl (kFldQ0 51 q0 rfl rfl (by kernel_rfl) rfl (fun d hd => by cases hd; rfl))) ?_
         refine lK (kOn 8 49 true rfl rfl (by decide) (by kernel_rfl) rfl (kLoadL 52 (q0.1) rfl rfl (by kernel_rfl) rfl (fun d hd => by cases hd; rfl))) ?_
         refine lK (kOn 8 49 true rfl rfl (by decide) (by kernel_rfl) rfl (kPure1 5 (.pointer (some ⟨rx, 0, none⟩)) (.pointer (some ⟨rx, 2, none⟩)) rfl (by kernel_rfl) rfl (fun a w1 h1 => by unfold execOp; simp only [h1, Sem.run_bind, run_fieldSt2 rx]; rfl) (fun d hd => by cases hd; rfl))) ?_
         refine lK (kOn 8 49 true rfl rfl (by decide) (by kernel_rfl) rfl (kLoadS 54 _ _ _ rfl rfl (by kernel_rfl) rfl c2' sl (fun d hd => by cases hd; rfl))) ?_
         refine lK (kOn 8 49 true rfl rfl (by decide) (by kernel_rfl) rfl (kSubset 53 55 (q0.1) (x.l) true hs1 rfl rfl (by kernel_rfl) (by kernel_rfl) rfl rfl (fun d hd => by cases hd; rfl))) ?_
         refine lK (kPickT 49 56 _ (.bool true) rfl rfl (by kernel_rfl) (by kernel_rfl) rfl rfl (fun d hd => by cases hd; rfl)) ?_
         refine lK (kMove 57 (.inl rfl) rfl (by kernel_rfl) (fun d hd => by cases hd; rfl)) ?_
         refine lK (kOn 17 58 true rfl rfl (by decide) (by kernel_rfl) rfl (kMove 7 (.inl rfl) rfl (by kernel_rfl) (fun d hd => by cases hd; rfl))) ?_
         refine lK (kOn 17 58 true rfl rfl (by decide) (by kernel_rfl) rfl (kIdxQ 59 gv q0 rfl rfl (by kernel_rfl) rfl hq0 (fun d hd => by cases hd; rfl))) ?_
         refine lK (kOn 17 58 true rfl rfl (by decide) (by kernel_rfl) rfl (kFldQ1 60 q0 rfl rfl (by kernel_rfl) rfl (fun d hd => by cases hd; rfl))) ?_
         refine lK (kOn 17 58 true rfl rfl (by decide) (by kernel_rfl) rfl (kLoadL 61 (q0.2) rfl rfl (by kernel_rfl) rfl (fun d hd => by cases hd; rfl))) ?_
         refine lK (kOn 17 58 true rfl rfl (by decide) (by kernel_rfl) rfl (kPure1 5 (.pointer (some ⟨rx, 0, none⟩)) (.pointer (some ⟨rx, 3, none⟩)) rfl (by kernel_rfl) rfl (fun a w1 h1 => by unfold execOp; simp only [h1, Sem.run_bind, run_fieldSt3 rx]; rfl) (fun d hd => by cases hd; rfl))) ?_
         refine lK (kOn 17 58 true rfl rfl (by decide) (by kernel_rfl) rfl (kLoadS 63 _ _ _ rfl rfl (by kernel_rfl) rfl c3' sr (fun d hd => by cases hd; rfl))) ?_
         refine lK (kOn 17 58 true rfl rfl (by decide) (by kernel_rfl) rfl (kSubset 62 64 (q0.2) (x.r) b2 hs2 rfl rfl (by kernel_rfl) (by kernel_rfl) rfl rfl (fun d hd => by cases hd; rfl))) ?_
         refine lK (kPickT 58 65 _ (.bool b2) rfl rfl (by kernel_rfl) (by kernel_rfl) rfl rfl (fun d hd => by cases hd; rfl)) ?_
         refine lK (kMove 66 (.inr rfl) rfl (by kernel_rfl) (fun d hd => by cases hd; rfl)) True.intro
        ·intro s hs
         have : s = 5 ∨ s = 7 := by simpa using hs
         rcases this with rfl | rfl
         ·exact rfl
         ·exact i7
        ·intro f w' hk hv
         have g6 : f 6 = .bool b2 := hv 6 (by decide)
         clear hv
         clear hs2
         simp only [putAll, Act.put, List.setIfInBounds_toArray, List.set_cons_zero, List.set_cons_succ, g6]
         clear g6
         go_wp2_with fail
         go_ret
         exact ⟨ret_bool (by rw [HRR.out]; try rfl), (K3.trans KD).trans hk⟩
      ·have hb1 : decide (gv.length = 1) = false := decide_eq_false hg1
       have HRR : Hid (R = false) := hid (by rw [HE3.out, decide_eq_false (by have := HGL.out; omega), Bool.false_and, Bool.false_and])
       clear HE3 hm0 hg1
       refine wp_region_kinds (L := 27) (nt := 84) (ins := [5, 7]) (ds := [41, 42, 43, 44, 45, 46, 47, 48, 49, 50, 51, 52, 53, 54, 55, 56, 57, 58, 59, 60, 61, 62, 63, 64, 65, 66, 6]) (by kernel_rfl) (by kernel_rfl) (fun s v w' => ((fun s => if s = 5 then .val (.pointer (some ⟨rx, 0, none⟩)) else if s = 6 then .val (.bool false) else if s = 7 then .sqs gv else if s = 41 then .val (.pointer (some ⟨rx, 4, none⟩)) else if s = 42 then .val (.string x.main) else if s = 43 then .val (.bool true) else if s = 44 then .val (.bool true) else if s = 45 then .sqs gv else if s = 46 then .val (.int .i64 ((gv.length : Nat) : Int)) else if s = 47 then .val (.bool false) else if s = 48 then .val (.bool false) else if s = 49 then .val (.bool false) else if s = 57 then .val (.bool false) else if s = 58 then .val (.bool false) else if s = 66 then .val (.bool false) else .any : Nat → Kq) s).holds v w') (fun _ _ _ _ h hv => Kq.keeps h hv) ?_ (by kernel_rfl) rfl ?_ ?_
       ·refine lK (kPure1 5 (.pointer (some ⟨rx, 0, none⟩)) (.pointer (some ⟨rx, 4, none⟩)) rfl (by kernel_rfl) rfl (fun a w1 h1 => by unfold execOp; simp only [h1, Sem.run_bind, run_fieldSt4 rx]; rfl) (fun d hd => by cases hd; rfl)) ?_
        refine lK (kLoadT 41 _ _ rfl rfl (by kernel_rfl) rfl c4 (fun d hd => by cases hd; rfl)) ?_
        refine lK (kEqS 42 x.main true hb0 rfl rfl (by kernel_rfl) rfl (fun d hd => by cases hd; rfl)) ?_
        refine lK (kMove 43 (.inl rfl) rfl (by kernel_rfl) (fun d hd => by cases hd; rfl)) ?_
        refine lK (kOn 3 44 true rfl rfl (by decide) (by kernel_rfl) rfl (kMove 7 (.inl rfl) rfl (by kernel_rfl) (fun d hd => by cases hd; rfl))) ?_
        refine lK (kOn 3 44 true rfl rfl (by decide) (by kernel_rfl) rfl (kLenQ 45 gv rfl rfl (by kernel_rfl) rfl (fun d hd => by cases hd; rfl))) ?_
        refine lK (kOn 3 44 true rfl rfl (by decide) (by kernel_rfl) rfl (kEq1 46 gv.length false hb1 rfl rfl (by kernel_rfl) rfl (fun d hd => by cases hd; rfl))) ?_
        refine lK (kPickT 44 47 _ (.bool false) rfl rfl (by kernel_rfl) (by kernel_rfl) rfl rfl (fun d hd => by cases hd; rfl)) ?_
        refine lK (kMove 48 (.inl rfl) rfl (by kernel_rfl) (fun d hd => by cases hd; rfl)) ?_
        refine lK (kOff 8 49 false rfl rfl (by decide) (by kernel_rfl) rfl (fun d hd => by cases hd; rfl)) ?_
        refine lK (kOff 8 49 false rfl rfl (by decide) (by kernel_rfl) rfl (fun d hd => by cases hd; rfl)) ?_
        refine lK (kOff 8 49 false rfl rfl (by decide) (by kernel_rfl) rfl (fun d hd => by cases hd; rfl)) ?_
        refine lK (kOff 8 49 false rfl rfl (by decide) (by kernel_rfl) rfl (fun d hd => by cases hd; rfl)) ?_
        refine lK (kOff 8 49 false rfl rfl (by decide) (by kernel_rfl) rfl (fun d hd => by cases hd; rfl)) ?_
        refine lK (kOff 8 49 false rfl rfl (by decide) (by kernel_rfl) rfl (fun d hd => by cases hd; rfl)) ?_
        refine lK (kOff 8 49 false rfl rfl (by decide) (by kernel_rfl) rfl (fun d hd => by cases hd; rfl)) ?_
        refine lK (kPickF 49 _ (.bool false) rfl rfl (by kernel_rfl) rfl (fun d hd => by cases hd; rfl)) ?_
        refine lK (kMove 57 (.inl rfl) rfl (by kernel_rfl) (fun d hd => by cases hd; rfl)) ?_
        refine lK (kOff 17 58 false rfl rfl (by decide) (by kernel_rfl) rfl (fun d hd => by cases hd; rfl)) ?_
        refine lK (kOff 17 58 false rfl rfl (by decide) (by kernel_rfl) rfl (fun d hd => by cases hd; rfl)) ?_
        refine lK (kOff 17 58 false rfl rfl (by decide) (by kernel_rfl) rfl (fun d hd => by cases hd; rfl)) ?_
        refine lK (kOff 17 58 false rfl rfl (by decide) (by kernel_rfl) rfl (fun d hd => by cases hd; rfl)) ?_
        refine lK (kOff 17 58 false rfl rfl (by decide) (by kernel_rfl) rfl (fun d hd => by cases hd; rfl)) ?_
        refine lK (kOff 17 58 false rfl rfl (by decide) (by kernel_rfl) rfl (fun d hd => by cases hd; rfl)) ?_
        refine lK (kOff 17 58 false rfl rfl (by decide) (by kernel_rfl) rfl (fun d hd => by cases hd; rfl)) ?_
        refine lK (kPickF 58 _ (.bool false) rfl rfl (by kernel_rfl) rfl (fun d hd => by cases hd; rfl)) ?_
        refine lK (kMove 66 (.inr rfl) rfl (by kernel_rfl) (fun d hd => by cases hd; rfl)) True.intro
       ·intro s hs
        have : s = 5 ∨ s = 7 := by simpa using hs
        rcases this with rfl | rfl
        ·exact rfl
        ·exact i7
       ·intro f w' hk hv
        have g6 : f 6 = .bool false := hv 6 (by decide)
        clear hv
        skip
        simp only [putAll, Act.put, List.setIfInBounds_toArray, List.set_cons_zero, List.set_cons_succ, g6]
        clear g6
        go_wp2_with fail
        go_ret
        exact ⟨ret_bool (by rw [HRR.out]; try rfl), (K3.trans KD).trans hk⟩
     ·have hb0 := toL_ne hm0
      have HRR : Hid (R = false) := hid (by rw [HE3.out, decide_eq_false hm0, Bool.and_false, Bool.false_and])
      clear HE3 hm0
      refine wp_region_kinds (L := 27) (nt := 84) (ins := [5, 7]) (ds := [41, 42, 43, 44, 45, 46, 47, 48, 49, 50, 51, 52, 53, 54, 55, 56, 57, 58, 59, 60, 61, 62, 63, 64, 65, 66, 6]) (by kernel_rfl) (by kernel_rfl) (fun s v w' => ((fun s => if s = 5 then .val (.pointer (some ⟨rx, 0, none⟩)) else if s = 6 then .val (.bool false) else if s = 7 then .sqs gv else if s = 41 then .val (.pointer (some ⟨rx, 4, none⟩)) else if s = 42 then .val (.string x.main) else if s = 43 then .val (.bool false) else if s = 44 then .val (.bool false) else if s = 48 then .val (.bool false) else if s = 49 then .val (.bool false) else if s = 57 then .val (.bool false) else if s = 58 then .val (.bool false) else if s = 66 then .val (.bool false) else .any : Nat → Kq) s).holds v w') (fun _ _ _ _ h hv => Kq.keeps h hv) ?_ (by kernel_rfl) rfl ?_ ?_
      ·refine lK (kPure1 5 (.pointer (some ⟨rx, 0, none⟩)) (.pointer (some ⟨rx, 4, none⟩)) rfl (by kernel_rfl) rfl (fun a w1 h1 => by unfold execOp; simp only [h1, Sem.run_bind, run_fieldSt4 rx]; rfl) (fun d hd => by cases hd; rfl)) ?_
       refine lK (kLoadT 41 _ _ rfl rfl (by kernel_rfl) rfl c4 (fun d hd => by cases hd; rfl)) ?_
       refine lK (kEqS 42 x.main false hb0 rfl rfl (by kernel_rfl) rfl (fun d hd => by cases hd; rfl)) ?_
       refine lK (kMove 43 (.inl rfl) rfl (by kernel_rfl) (fun d hd => by cases hd; rfl)) ?_
       refine lK (kOff 3 44 false rfl rfl (by decide) (by kernel_rfl) rfl (fun d hd => by cases hd; rfl)) ?_
       refine lK (kOff 3 44 false rfl rfl (by decide) (by kernel_rfl) rfl (fun d hd => by cases hd; rfl)) ?_
       refine lK (kOff 3 44 false rfl rfl (by decide) (by kernel_rfl) rfl (fun d hd => by cases hd; rfl)) ?_
       refine lK (kPickF 44 _ (.bool false) rfl rfl (by kernel_rfl) rfl (fun d hd => by cases hd; rfl)) ?_
       refine lK (kMove 48 (.inl rfl) rfl (by kernel_rfl) (fun d hd => by cases hd; rfl)) ?_
       refine lK (kOff 8 49 false rfl rfl (by decide) (by kernel_rfl) rfl (fun d hd => by cases hd; rfl)) ?_
       refine lK (kOff 8 49 false rfl rfl (by decide) (by kernel_rfl) rfl (fun d hd => by cases hd; rfl)) ?_
       refine lK (kOff 8 49 false rfl rfl (by decide) (by kernel_rfl) rfl (fun d hd => by cases hd; rfl)) ?_
       refine lK (kOff 8 49 false rfl rfl (by decide) (by kernel_rfl) rfl (fun d hd => by cases hd; rfl)) ?_
       refine lK (kOff 8 49 false rfl rfl (by decide) (by kernel_rfl) rfl (fun d hd => by cases hd; rfl)) ?_
       refine lK (kOff 8 49 false rfl rfl (by decide) (by kernel_rfl) rfl (fun d hd => by cases hd; rfl)) ?_
       refine lK (kOff 8 49 false rfl rfl (by decide) (by kernel_rfl) rfl (fun d hd => by cases hd; rfl)) ?_
       refine lK (kPickF 49 _ (.bool false) rfl rfl (by kernel_rfl) rfl (fun d hd => by cases hd; rfl)) ?_
       refine lK (kMove 57 (.inl rfl) rfl (by kernel_rfl) (fun d hd => by cases hd; rfl)) ?_
       refine lK (kOff 17 58 false rfl rfl (by decide) (by kernel_rfl) rfl (fun d hd => by cases hd; rfl)) ?_
       refine lK (kOff 17 58 false rfl rfl (by decide) (by kernel_rfl) rfl (fun d hd => by cases hd; rfl)) ?_
       refine lK (kOff 17 58 false rfl rfl (by decide) (by kernel_rfl) rfl (fun d hd => by cases hd; rfl)) ?_
       refine lK (kOff 17 58 false rfl rfl (by decide) (by kernel_rfl) rfl (fun d hd => by cases hd; rfl)) ?_
       refine lK (kOff 17 58 false rfl rfl (by decide) (by kernel_rfl) rfl (fun d hd => by cases hd; rfl)) ?_
       refine lK (kOff 17 58 false rfl rfl (by decide) (by kernel_rfl) rfl (fun d hd => by cases hd; rfl)) ?_
       refine lK (kOff 17 58 false rfl rfl (by decide) (by kernel_rfl) rfl (fun d hd => by cases hd; rfl)) ?_
       refine lK (kPickF 58 _ (.bool false) rfl rfl (by kernel_rfl) rfl (fun d hd => by cases hd; rfl)) ?_
       refine lK (kMove 66 (.inr rfl) rfl (by kernel_rfl) (fun d hd => by cases hd; rfl)) True.intro
      ·intro s hs
       have : s = 5 ∨ s = 7 := by simpa using hs
       rcases this with rfl | rfl
       ·exact rfl
       ·exact i7
      ·intro f w' hk hv
       have g6 : f 6 = .bool false := hv 6 (by decide)
       clear hv
       skip
       simp only [putAll, Act.put, List.setIfInBounds_toArray, List.set_cons_zero, List.set_cons_succ, g6]
       clear g6
       go_wp2_with fail
       go_ret
       exact ⟨ret_bool (by rw [HRR.out]; try rfl), (K3.trans KD).trans hk⟩
    ·have hr' : (x.rule == 13) = false := by simpa using hr13
     have HE3 : Hid (R = match preR (lgN lg) x.rule.toNat x.l x.r x.main with
      | none => false
      | some ps => decide (ps = gv)) := hid (by
      rw [HE2.out]
      unfold fitB
      rw [if_neg hr13, HGV.out]
      rfl)
     clear HE2 hr13
     go_upto_region 13 with fail
     go_cut [10, 11] from 67 to 77 (fun v10 v11 wx => (rowP (preR (lgN lg) x.rule.toNat x.l x.r x.main)).holds v10 wx ∧ v11 = .bool (preR (lgN lg) x.rule.toNat x.l x.r x.main).isSome ∧ Keeps wr wx)
     case first =>
      have kd := (Keeps.refl wr).drew
      have hbx := HXR.out.keeps kd
      obtain ⟨c0, -, -, -, c4⟩ := hbx.cells
      obtain ⟨rx, hrx⟩ : ∃ rx, rx = w.heap.size := ⟨_, rfl⟩
      rw [← hrx] at c0 c4 hbx ⊢
      have HRX := hid hrx
      clear hrx y0 y1 y2 y3 y4
      refine wp_region_kinds (L := 13) (nt := 84) (ins := [0, 5]) (ds := [68, 69, 70, 71, 72, 73, 74, 75, 67, 76, 77, 10, 11]) (by kernel_rfl) (by kernel_rfl) (fun s v w' => ((fun s => if s = 0 then .val (.string lg) else if s = 5 then .val (.pointer (some ⟨rx, 0, none⟩)) else if s = 10 then rowP (preR (lgN lg) x.rule.toNat x.l x.r x.main) else if s = 11 then .val (.bool (preR (lgN lg) x.rule.toNat x.l x.r x.main).isSome) else if s = 67 then tupP (preR (lgN lg) x.rule.toNat x.l x.r x.main) else if s = 68 then .val (.string lg) else if s = 69 then .val (.pointer (some ⟨rx, 0, none⟩)) else if s = 70 then .val (.int .i64 x.rule) else if s = 71 then stv x else if s = 72 then .sq (x.l) (x.r) else if s = 73 then .val (.pointer (some ⟨rx, 4, none⟩)) else if s = 74 then .val (.string x.main) else if s = 75 then tupP (preR (lgN lg) x.rule.toNat x.l x.r x.main) else if s = 76 then rowP (preR (lgN lg) x.rule.toNat x.l x.r x.main) else if s = 77 then .val (.bool (preR (lgN lg) x.rule.toNat x.l x.r x.main).isSome) else .any : Nat → Kq) s).holds v w') (fun _ _ _ _ h hv => Kq.keeps h hv) ?_ (by kernel_rfl) rfl ?_ ?_
      ·refine lK (kMove 0 (.inl rfl) rfl (by kernel_rfl) (fun d hd => by cases hd; rfl)) ?_
       refine lK (kPure1 5 (.pointer (some ⟨rx, 0, none⟩)) (.pointer (some ⟨rx, 0, none⟩)) rfl (by kernel_rfl) rfl (fun a w1 h1 => by unfold execOp; simp only [h1, Sem.run_bind, run_fieldSt0 rx]; rfl) (fun d hd => by cases hd; rfl)) ?_
       refine lK (kLoadI 69 _ _ rfl rfl (by kernel_rfl) rfl c0 (fun d hd => by cases hd; rfl)) ?_
       refine lK (kLoadSt 5 rx x _ _ _ rfl rfl (by kernel_rfl) rfl hbx (fun d hd => by cases hd; rfl)) ?_
       refine lK (kSeqm 71 x rfl rfl (by kernel_rfl) rfl (fun d hd => by cases hd; rfl)) ?_
       refine lK (kPure1 5 (.pointer (some ⟨rx, 0, none⟩)) (.pointer (some ⟨rx, 4, none⟩)) rfl (by kernel_rfl) rfl (fun a w1 h1 => by unfold execOp; simp only [h1, Sem.run_bind, run_fieldSt4 rx]; rfl) (fun d hd => by cases hd; rfl)) ?_
       refine lK (kLoadT 73 _ _ rfl rfl (by kernel_rfl) rfl c4 (fun d hd => by cases hd; rfl)) ?_
       refine lK (kPrem 68 70 72 74 lg x.rule x.main x.l x.r rfl rfl (by kernel_rfl) (by kernel_rfl) (by kernel_rfl) (by kernel_rfl) rfl rfl rfl rfl HLG.out HS1.out HS2.out ⟨by omega, by omega⟩ m3 (fun d hd => by cases hd; rfl)) ?_
       refine lK (kMove 75 (.inl rfl) rfl (by kernel_rfl) (fun d hd => by cases hd; rfl)) ?_
       refine lK (kExt0 67 (preR (lgN lg) x.rule.toNat x.l x.r x.main) rfl rfl (by kernel_rfl) rfl (fun d hd => by cases hd; rfl)) ?_
       refine lK (kExt1 67 (preR (lgN lg) x.rule.toNat x.l x.r x.main) rfl rfl (by kernel_rfl) rfl (fun d hd => by cases hd; rfl)) ?_
       refine lK (kMove 76 (.inr rfl) rfl (by kernel_rfl) (fun d hd => by cases hd; rfl)) ?_
       refine lK (kMove 77 (.inr rfl) rfl (by kernel_rfl) (fun d hd => by cases hd; rfl)) True.intro
      ·intro s hs
       have : s = 0 ∨ s = 5 := by simpa using hs
       rcases this with rfl | rfl
       ·exact rfl
       ·exact rfl
      ·intro f w' hk hv
       have g10 : (rowP (preR (lgN lg) x.rule.toNat x.l x.r x.main)).holds (f 10) w' := hv 10 (by decide)
       have g11 : f 11 = .bool (preR (lgN lg) x.rule.toNat x.l x.r x.main).isSome := hv 11 (by decide)
       have G10 := hid g10
       clear hv g10 HE3
       obtain ⟨ok, hok⟩ : ∃ ok, (preR (lgN lg) x.rule.toNat x.l x.r x.main).isSome = ok := ⟨_, rfl⟩
       rw [hok] at g11
       have HOK := hid hok
       clear hok
       simp only [putAll, Act.put, List.setIfInBounds_toArray, List.set_cons_zero, List.set_cons_succ, g11]
       clear g11
       go_wp2_with fail
       have erx := HRX.out
       subst erx
       go_meet
       exact ⟨G10.out, (congrArg Value.bool HOK.out).symm, kd.trans hk⟩
     case rest =>
      obtain ⟨g10, rfl, kx⟩ := hcut
      obtain ⟨p6, n6, c6, rfl⟩ := g10.1
      have G10 := hid g10
      have KX := (K3.trans kw).trans kx
      have HGX := hid (HGQ.out.keeps kx)
      clear g10 y0 y1 y2 y3 y4
      cases hlp : preR (lgN lg) x.rule.toNat x.l x.r x.main with
      | none =>
       rw [hlp] at HE3
       have HRR : Hid (R = false) := hid HE3.out
       clear HE3 hlp
       go_wp2_with fail
       go_ret
       exact ⟨ret_bool HRR.out.symm, KX⟩
      | some ps =>
       rw [hlp] at HE3 G10
       have HRR : Hid (R = decide (gv = ps)) := hid (by
        rw [HE3.out, Bool.eq_iff_iff, decide_eq_true_eq, decide_eq_true_eq]
        exact ⟨Eq.symm, Eq.symm⟩)
       have HEF := hid (equalFuncSq gv ps _ _ wc HGX.out (G10.out.2 ps rfl))
       clear HE3 hlp
       go_wp2_with fail
       refine HEF.out.mono ?_; rintro e w9 ⟨rfl, k9⟩
       go_wp2_with fail
       go_ret
       exact ⟨ret_bool (by rw [HRR.out]), KX.trans k9⟩
end Go.Proofs.YtkkcfifnkcnceaaGreat
