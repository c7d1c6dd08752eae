import Derived.Test.YtkkcfifnkcnceaaGreatHFR
import Derived.Test.YtkkcfifnkcnceaaGreatHD41
import Derived.Deep.RegionHeld3
/- Steps of modal proofs, read; what both checkers ask of them. -/
namespace Go.Proofs.YtkkcfifnkcnceaaGreat
open Go.RowKit
structure StT where
 rule : Int
 pr : List Int
 l : List ByteArray
 r : List ByteArray
 main : ByteArray
def StRd (w : World) (f : Nat → Value) (x : StT) : Prop := f 0 = .int .i64 x.rule ∧ (Ints w (f 1) x.pr ∧ ∃ p n c, f 1 = .slice p n c) ∧ StrsP w (f 2) x.l ∧ StrsP w (f 3) x.r ∧ f 4 = .string x.main
theorem StRd.stays : Stays StRd := fun _ _ _ _ k h => ⟨h.1, ⟨h.2.1.1.keeps k, h.2.1.2⟩, h.2.2.1.keeps k, h.2.2.2.1.keeps k, h.2.2.2.2⟩
def StL (w : World) (v : Value) (xs : List StT) : Prop := SlC 5 StRd w v xs
theorem StL.keeps {w w' : World} {v : Value} {xs : List StT} (h : StL w v xs) (k : Keeps w w') : StL w' v xs := SlC.keeps StRd.stays h k
theorem StL.shape {w : World} {v : Value} {xs : List StT} (h : StL w v xs) : ∃ p cap, v = .slice p xs.length cap ∧ xs.length ≤ cap ∧ cap ≤ maxLen ∧ xs.length ≤ 2147483648 := by
 obtain ⟨p, cap, hv, h1, h2, h3, _⟩ := h
 exact ⟨p, cap, hv, h1, h2, h3⟩
theorem StL.get {w : World} {p : Option Addr} {n cap : Nat} {xs : List StT} (h : StL w (.slice p n cap) xs) (i : Nat) (hi : i < xs.length) :
  ∃ b off p1 n1 c1 p2 n2 c2 p3 n3 c3, p = some ⟨b, off, none⟩ ∧ (w.cell? ⟨b, off + i * 5, none⟩ = some (.int .i64 xs[i].rule) ∧ w.cell? ⟨b, off + i * 5 + 1, none⟩ = some (.slice p1 n1 c1) ∧ w.cell? ⟨b, off + i * 5 + 2, none⟩ = some (.slice p2 n2 c2) ∧ w.cell? ⟨b, off + i * 5 + 3, none⟩ = some (.slice p3 n3 c3) ∧ w.cell? ⟨b, off + i * 5 + 4, none⟩ = some (.string xs[i].main)) ∧
   Ints w (.slice p1 n1 c1) xs[i].pr ∧ StrsP w (.slice p2 n2 c2) xs[i].l ∧ StrsP w (.slice p3 n3 c3) xs[i].r := by
 obtain ⟨p', cap', hv, h1, h2, h3, h4⟩ := h
 cases hv
 obtain ⟨b, off, f, hp, hc, e0, ⟨hr1, p1, n1, c1, e1⟩, hr2, hr3, e4⟩ := h4 i hi
 obtain ⟨p2, n2, c2, e2⟩ := hr2.sh
 obtain ⟨p3, n3, c3, e3⟩ := hr3.sh
 have a0 := hc 0 (by omega)
 have a1 := hc 1 (by omega)
 have a2 := hc 2 (by omega)
 have a3 := hc 3 (by omega)
 have a4 := hc 4 (by omega)
 rw [e0] at a0
 rw [e1] at a1 hr1
 rw [e2] at a2 hr2
 rw [e3] at a3 hr3
 rw [e4] at a4
 exact ⟨b, off, p1, n1, c1, p2, n2, c2, p3, n3, c3, hp, ⟨a0, a1, a2, a3, a4⟩, hr1, hr2, hr3⟩
structure StB (w : World) (r : Nat) (x : StT) (p l q : Value) : Prop where
 box : BoxG w r 68 [.int .i64 x.rule, p, l, q, .string x.main]
 pr : Ints w p x.pr
 sl : StrsP w l x.l
 sr : StrsP w q x.r
theorem StB.keeps {w w' : World} {r : Nat} {x : StT} {p l q : Value} (h : StB w r x p l q) (k : Keeps w w') : StB w' r x p l q := ⟨h.box.keeps k, h.pr.keeps k, h.sl.keeps k, h.sr.keeps k⟩
theorem StB.cells {w : World} {r : Nat} {x : StT} {p l q : Value} (h : StB w r x p l q) : w.cell? ⟨r, 0, none⟩ = some (.int .i64 x.rule) ∧ w.cell? ⟨r, 1, none⟩ = some p ∧ w.cell? ⟨r, 2, none⟩ = some l ∧ w.cell? ⟨r, 3, none⟩ = some q ∧ w.cell? ⟨r, 4, none⟩ = some (.string x.main) :=
 ⟨h.box.cell 0 (by simp), h.box.cell 1 (by simp), h.box.cell 2 (by simp), h.box.cell 3 (by simp), h.box.cell 4 (by simp)⟩
theorem StB.made (w : World) (x : StT) (p l q : Value) (hp : Ints w p x.pr) (hl : StrsP w l x.l) (hr : StrsP w q x.r) : StB (w.alloc (.cells #[.int .i64 x.rule, p, l, q, .string x.main] 68)) w.heap.size x p l q := by
 have k := (Keeps.refl w).alloc (.cells #[.int .i64 x.rule, p, l, q, .string x.main] 68)
 exact ⟨BoxG.made w 68 [.int .i64 x.rule, p, l, q, .string x.main] (by simp) (by simp), hp.keeps k, hl.keeps k, hr.keeps k⟩
theorem Ints.int {w : World} {p : Option Addr} {n cap : Nat} {a : List Int} (h : Ints w (.slice p n cap) a) (i : Nat) (hi : i < a.length) : ∃ b off, p = some ⟨b, off, none⟩ ∧ w.cell? ⟨b, off + i, none⟩ = some (.int .i64 a[i]) := by
 obtain ⟨p', c', hv, _, _, hat, _⟩ := h
 cases hv
 exact hat.int i hi
theorem Ints.sh5 {w : World} {v : Value} {a : List Int} (h : Ints w v a) : ∃ p c, v = .slice p a.length c ∧ a.length ≤ 2147483648 := by
 obtain ⟨p, c, e, _, _, _, h2⟩ := h
 exact ⟨p, c, e, h2⟩
theorem kOn {md : Region.Mode} {ops : Array Oper} {Q : Exit → Act → World → Prop} {nt : Nat} {ins : List Nat} {kd : Nat → Kq} {w0 : World} {o : Oper} (j d0 : Nat) (b : Bool) (hg : o.guard = some (j, b)) (hj : (ops[j]?).bind (·.dst) = some d0) (hlt : d0 < nt) (h0 : availK md ops ins o d0 = true) (hs0 : kd d0 = .val (.bool b))
  (h : StQ md ops Q nt ins kd w0 { o with guard := none }) : StQ md ops Q nt ins kd w0 o := fun a w K hsa hJ hins hdep hK => by
 have hv0 := getK h0 hins hdep
 change (kd d0).holds _ w at hv0
 rw [hs0] at hv0
 have hv0 : a.eval (.tmp d0) = .bool b := hv0
 have hw : Region.wanted o (yielded ops a.tmps) = true := by
  unfold Region.wanted
  rw [hg]
  simp only [yields_of hj (by omega) hv0]
  cases b <;> rfl
 have h2 := h a w K hsa hJ hins hdep hK
 rw [if_pos (by simp [Region.wanted])] at h2
 rw [hw, if_pos rfl]
 exact h2
theorem of1_any (r : Int) (p q s : Option Addr) (n c m d k e : Nat) (u : ByteArray) (w : World) :
  Calls Tryz.prog 41 #[.agg #[.int .i64 r, .slice p n c, .slice q m d, .slice s k e, .string u]] w fun x w' => x = .returned (.agg #[.slice q m d, .slice s k e]) ∧ Keeps w w' := by
 have kA := (Keeps.refl w).alloc (.cells #[.int .i64 r, .slice p n c, .slice q m d, .slice s k e, .string u] 68)
 go_enter Tryz.func41, Tryz.ntmps41
 go_wp2_with fail
 refine bodyPost_ret (v := .agg #[.slice q m d, .slice s k e]) (by simp [results, Tryz.results41, go_sem]) rfl ⟨rfl, ?_⟩
 exact kA.alloc _
theorem sequent_any (r : Int) (p q s : Option Addr) (n c m d k e : Nat) (u : ByteArray) (w : World) :
  Calls Tryz.prog 47 #[.agg #[.int .i64 r, .slice p n c, .slice q m d, .slice s k e, .string u]] w fun x w' => x = .returned (.agg #[.slice q m d, .slice s k e]) ∧ Keeps w w' := by
 have kA := (Keeps.refl w).alloc (.cells #[.int .i64 r, .slice p n c, .slice q m d, .slice s k e, .string u] 68)
 go_enter Tryz.func47, Tryz.ntmps47
 go_wp2_with fail
 refine bodyPost_ret (v := .agg #[.slice q m d, .slice s k e]) (by simp [results, Tryz.results47, go_sem]) rfl ⟨rfl, ?_⟩
 exact kA.alloc _
open scoped Classical in
set_option maxHeartbeats 1000000 in
theorem l01Words_any (ss tt : List ByteArray) (v u : Value) (w : World) (hv : Strs w v ss) (hu : Strs w u tt) :
  Calls Tryz.prog 203 #[v, u] w fun e w' => e = .returned (.bool (decide (ss = tt))) ∧ Keeps w w' := by
 have HV := hid (fun wz (k : Keeps w wz) => hv.keeps k)
 have HU := hid (fun wz (k : Keeps w wz) => hu.keeps k)
 obtain ⟨p, c, rfl, _, hmx, _⟩ := hv.shape
 obtain ⟨q, d, rfl, _, hmx2, _⟩ := hu.shape
 unfold maxLen at hmx hmx2
 clear hv hu
 have HEQ := hid (fun (h : ss.length = tt.length) (h2 : ∀ j (h1 : j < ss.length) (h2 : j < tt.length), ss[j] = tt[j]) => show decide (ss = tt) = true from decide_eq_true (List.ext_getElem h h2))
 have HNE := hid (fun (j : Nat) (h1 : j < ss.length) (h2 : j < tt.length) (e : (ss[j].toList == tt[j].toList) = false) => show decide (ss = tt) = false from decide_eq_false (fun h => by
  subst h
  simp at e))
 have HNL := hid (fun (h : ss.length ≠ tt.length) => show decide (ss = tt) = false from decide_eq_false (fun e => h (by rw [e])))
 generalize decide (ss = tt) = b at *
 go_enter Tryz.func203, Tryz.ntmps203
 by_cases hl : ss.length = tt.length
 ·have hl' : (ss.length : Int) = tt.length := by omega
  have HL := hid hl
  obtain ⟨n, hn⟩ : ∃ n, n = tt.length := ⟨_, rfl⟩
  rw [hl, ← hn]
  have HN := hid hn
  clear hl hl' hn HNL
  go_wp2_with fail
  go_loopw [5] (fun i' wr => ∃ i : Nat, i ≤ n ∧ i' = .int .i64 i ∧ (∀ j (h1 : j < ss.length) (h2 : j < tt.length), j < i → ss[j] = tt[j]) ∧ Keeps w wr) (fun i' _ => n - (intOf i').toNat)
  case atStart => exact ⟨0, by omega, rfl, fun j _ _ h => by omega, Keeps.refl _⟩
  case round =>
   obtain ⟨i, hi, rfl, hall, kw⟩ := hrel
   have HA := hid hall; clear hall
   by_cases hlt : i < n
   ·have hlt' : (i : Int) < n := by omega
    have h1 : i < ss.length := by have := HL.out; have := HN.out; omega
    have h2 : i < tt.length := by have := HN.out; omega
    obtain ⟨b1, o1, e1, z1⟩ := (HV.out wr kw).get i h1
    cases e1
    obtain ⟨b2, o2, e2, z2⟩ := (HU.out wr kw).get i h2
    cases e2
    have HX := hid (HNE.out i h1 h2)
    have HY : Hid ((ss[i].toList == tt[i].toList) = true → ∀ j (h1 : j < ss.length) (h2 : j < tt.length), j < i + 1 → ss[j] = tt[j]) := hid (fun h j h1 h2 hj => by
     by_cases e : j = i
     ·subst e
      rw [beq_bts, decide_eq_true_eq] at h
      exact bts_inj h
     ·exact HA.out j h1 h2 (by omega))
    generalize ss[i] = x at *
    generalize tt[i] = y at *
    cases he : (x.toList == y.toList)
    ·rw [he] at HX
     have hb := HX.out rfl
     have HB := hid hb
     clear hb HX HY
     go_wp2_with fail
     go_quiet (fail)
     go_wp2_with fail
     go_ret
     exact ⟨ret_bool HB.out.symm, kw.drewN _⟩
    ·rw [he] at HY
     have HY2 := hid (HY.out rfl)
     clear HX HY
     go_wp2_with fail
     go_quiet (fail)
     go_wp2_with fail
     go_roundw
     case rel => exact ⟨i + 1, by omega, by go_num, HY2.out, kw.drewN _⟩
     case measure => simp [intOf]; omega
   ·obtain rfl : i = n := by omega
    have hlt' : ¬ ((i : Int) < i) := by omega
    have hb := HEQ.out HL.out (fun j h1 h2 => HA.out j h1 h2 (by have := HN.out; omega))
    have HB := hid hb
    clear hb HEQ HNE
    go_wp2_with fail
    go_ret
    exact ⟨ret_bool HB.out.symm, kw⟩
 ·have hb := HNL.out hl
  have HB := hid hb
  have hl' : ((ss.length : Int) != tt.length) = true := by simp; omega
  clear hb hl HEQ HNE HNL
  go_wp2_with fail
  go_ret
  exact ⟨ret_bool HB.out.symm, Keeps.refl _⟩
end Go.Proofs.YtkkcfifnkcnceaaGreat
namespace Go.Proofs.YtkkcfifnkcnceaaGreat
open Go.RowKit
theorem insB_more : ∀ (l : List (List UInt8)) (x : List UInt8), x ∉ l → (insB l x).length = l.length + 1
 | [], x, _ => rfl
 | y :: l, x, h => by
  have h1 : y ≠ x := fun e => h (by rw [e]; simp)
  have ih := insB_more l x (fun hm => h (List.mem_cons_of_mem _ hm))
  unfold insB
  split
  ·simp only [List.length_cons]; omega
  ·simp
theorem insS_more {ss : List ByteArray} {s : ByteArray} (h : s ∉ ss) : (insS ss s).length = ss.length + 1 := by
 unfold insS
 rw [List.length_map, insB_more _ _ (fun hm => h (mem_bts.1 hm)), List.length_map]
theorem insS_same {ss : List ByteArray} {s : ByteArray} (ha : Asc (ss.map bts)) (h : s ∈ ss) : insS ss s = ss :=
 asc_ext (insS_asc s ha) ha fun u => by
  rw [insS_in]
  exact ⟨fun h2 => by rcases h2 with h2 | rfl; exact h2; exact h, .inl⟩
theorem insS_ge (ss : List ByteArray) (s : ByteArray) : ss.length ≤ (insS ss s).length := by
 have := (insB_len (ss.map bts) (bts s)).2.1
 unfold insS
 rw [List.length_map]
 simpa using this
theorem uniS_ge : ∀ (P X : List ByteArray), X.length ≤ (uniS X P).length
 | [], _X => Nat.le_refl _
 | p :: P, X => Nat.le_trans (insS_ge X p) (uniS_ge P (insS X p))
theorem uniS_len_iff : ∀ (P X : List ByteArray), Asc (X.map bts) → ((uniS X P).length = X.length ↔ ∀ u ∈ P, u ∈ X)
 | [], X, _ => ⟨fun _ u hu => (by simp at hu), fun _ => rfl⟩
 | p :: P, X, ha => by
  show (uniS (insS X p) P).length = X.length ↔ _
  by_cases hp : p ∈ X
  ·rw [insS_same ha hp, uniS_len_iff P X ha]
   exact ⟨fun h u hu => by rcases List.mem_cons.1 hu with rfl | hu; exact hp; exact h u hu, fun h u hu => h u (List.mem_cons_of_mem _ hu)⟩
  ·constructor
   ·intro h
    have h1 := insS_more hp
    have h2 := uniS_ge P (insS X p)
    omega
   ·intro h
    exact absurd (h p (by simp)) hp
def subS (P X : List ByteArray) : Bool := P.all fun u => inS X u
theorem subS_iff {P X : List ByteArray} : subS P X = true ↔ ∀ u ∈ P, u ∈ X := by
 unfold subS
 rw [List.all_eq_true]
 exact ⟨fun h u hu => inS_iff.1 (h u hu), fun h u hu => inS_iff.2 (h u hu)⟩
theorem uniS_sub {P X : List ByteArray} (ha : Asc (X.map bts)) : decide ((uniS X P).length = X.length) = subS P X := by
 rw [Bool.eq_iff_iff, decide_eq_true_eq, subS_iff, uniS_len_iff P X ha]
instance : Inhabited StT := ⟨⟨0, [], [], [], ⟨#[]⟩⟩⟩
def stAt (steps : List StT) (i : Int) : StT := steps.getD i.toNat default
def seqAt (steps : List StT) (i : Int) : SqT := ((stAt steps i).l, (stAt steps i).r)
open scoped Classical in
noncomputable def fitB (L : Nat) (steps : List StT) (x : StT) : Bool :=
 if x.rule = 13 then decide (x.pr.length = 1) && decide (x.main = ⟨#[]⟩) && (subS (stAt steps (x.pr.getD 0 0)).l x.l && subS (stAt steps (x.pr.getD 0 0)).r x.r)
 else match preR L x.rule.toNat x.l x.r x.main with
  | none => false
  | some ps => decide (ps = x.pr.map (seqAt steps))
noncomputable def corB (L : Nat) (steps : List StT) (k : Nat) (x : StT) : Bool := isQ x.l x.r && (x.pr.all (fun i => inR i 0 ((k : Int) - 1)) && fitB L steps x)
noncomputable def badN (L : Nat) (steps : List StT) : List StT → Nat → Int
 | [], _ => -1
 | x :: l, k => if corB L steps k x = true then badN L steps l (k + 1) else (k : Int)
theorem badN_step (L : Nat) (steps : List StT) (k : Nat) (h : k < steps.length) : badN L steps (steps.drop k) k = if corB L steps k steps[k] = true then badN L steps (steps.drop (k + 1)) (k + 1) else (k : Int) := by
 rw [List.drop_eq_getElem_cons h]
 rfl
theorem badN_end (L : Nat) (steps : List StT) (k : Nat) (h : steps.length ≤ k) : badN L steps (steps.drop k) k = -1 := by
 rw [List.drop_eq_nil_of_le h]
 rfl
def MidSt (steps : List StT) : Prop := ∀ x ∈ steps, Mid x.l ∧ Mid x.r ∧ x.main.size ≤ 10000000
theorem stAt_get {steps : List StT} {i : Int} (_h0 : 0 ≤ i) (h1 : i.toNat < steps.length) : stAt steps i = steps[i.toNat] := by
 unfold stAt
 rw [List.getD_eq_getElem?_getD, List.getElem?_eq_getElem h1]
 rfl
theorem corB_isQ {L : Nat} {steps : List StT} {k : Nat} {x : StT} (h : corB L steps k x = true) : isQ x.l x.r = true := by
 unfold corB at h
 rw [Bool.and_eq_true] at h
 exact h.1
noncomputable def stE (lg : ByteArray) (steps : List StT) : Int :=
 if @decide (lg ∈ names7) (Classical.propDecidable _) = true then (if steps.length = 0 ∨ 60 < steps.length then 3 else if 0 ≤ badN (lgN lg) steps steps 0 then 5 else 0) else 2
end Go.Proofs.YtkkcfifnkcnceaaGreat
namespace Go.Proofs.YtkkcfifnkcnceaaGreat
open Go.RowKit
section
variable {md : Region.Mode} {ops : Array Oper} {Q : Exit → Act → World → Prop} {nt : Nat} {ins : List Nat} {kd : Nat → Kq} {w0 : World} {o : Oper}
theorem run_fieldSt0 (b : Nat) (w : World) : (Instr.fieldAt 68 (.pointer (some ⟨b, 0, none⟩)) 0).run Tryz.prog w = .ok (.pointer (some ⟨b, 0, none⟩)) w := by kernel_rfl
theorem run_fieldSt2 (b : Nat) (w : World) : (Instr.fieldAt 68 (.pointer (some ⟨b, 0, none⟩)) 2).run Tryz.prog w = .ok (.pointer (some ⟨b, 2, none⟩)) w := by kernel_rfl
theorem run_fieldSt3 (b : Nat) (w : World) : (Instr.fieldAt 68 (.pointer (some ⟨b, 0, none⟩)) 3).run Tryz.prog w = .ok (.pointer (some ⟨b, 3, none⟩)) w := by kernel_rfl
theorem run_fieldSt4 (b : Nat) (w : World) : (Instr.fieldAt 68 (.pointer (some ⟨b, 0, none⟩)) 4).run Tryz.prog w = .ok (.pointer (some ⟨b, 4, none⟩)) w := by kernel_rfl
theorem enters_union : Enters 21 := fun _ _ => by kernel_rfl
theorem kUnion (s s' : Nat) (x y : List ByteArray) (ho : o.op = .call { callee := .value (.func 21), args := #[.tmp s, .tmp s'], argTypes := #[24, 24] }) (hg : o.guard = none) (h : availK md ops ins o s = true) (h' : availK md ops ins o s' = true) (hs : kd s = .strs x) (hs' : kd s' = .strs y) (hl : x.length + y.length ≤ 1000000) (hk : ∀ d, o.dst = some d → kd d = .strs (uniS x y)) : StQ md ops Q nt ins kd w0 o :=
 kCall 21 _ _ ho enters_union hg (fun a w1 _ hv => by
  have g1 := hv s h
  have g2 := hv s' h'
  rw [hs] at g1
  rw [hs'] at g2
  have g1 : StrsP w1 (a.eval (.tmp s)) x := g1
  have g2 : StrsP w1 (a.eval (.tmp s')) y := g2
  rw [map2]
  refine (l11UnionN_any x y _ _ w1 g1.1 g2.1 hl).mono ?_
  rintro e w2 ⟨b3, n3, c3, rfl, h3, k3⟩
  have := uniS_len x y
  exact ⟨_, rfl, k3, fun d hd => by rw [hk d hd]; exact h3.strsP (by omega)⟩)
theorem run_lenS (T : TypeId) (p : Option Addr) (n c : Nat) (w : World) : (Builtin.len_ #[24] T #[.slice p n c]).run Tryz.prog w = .ok (.int .i64 (n : Int)) w := by kernel_rfl
theorem kLen (s : Nat) (x : List ByteArray) (ho : o.op = .call { callee := .builtin .len, args := #[.tmp s], argTypes := #[24] }) (hg : o.guard = none) (h : availK md ops ins o s = true) (hs : kd s = .strs x) (hk : ∀ d, o.dst = some d → kd d = .val (.int .i64 ((x.length : Nat) : Int))) : StQ md ops Q nt ins kd w0 o :=
 StepK.plain hg fun a w K hsa hJ hins hdep hK => by
  have hv := getK h hins hdep
  change (kd s).holds _ w at hv
  rw [hs] at hv
  have hv : StrsP w (a.eval (.tmp s)) x := hv
  obtain ⟨p, c, e, _⟩ := hv.1.shape
  unfold Oper.wp execOp
  simp only [ho, resolve, invoke, builtin, Sem.run_bind, Sem.run_pure, Result.andThen_ok, List.map_toArray, List.map_cons, List.map_nil, e, run_lenS]
  exact hK _ _ (Keeps.refl w) (fun d hd => by show (kd d).holds _ w; rw [hk d hd]; exact rfl)
theorem run_eqN (m n : Nat) (w : World) : (binOp .eql 3 (.int .i64 (m : Int)) (.int .i64 (n : Int))).run Tryz.prog w = .ok (.bool (decide (m = n))) w := by
 have h : (binOp .eql 3 (.int .i64 (m : Int)) (.int .i64 (n : Int))).run Tryz.prog w = .ok (.bool ((m : Int) == (n : Int))) w := by kernel_rfl
 rw [h]
 congr 2
 rw [Bool.eq_iff_iff, beq_iff_eq, decide_eq_true_eq]
 omega
theorem kEqN (s s' m n : Nat) (b : Bool) (hb : decide (m = n) = b) (ho : o.op = .binOp .eql 3 (.tmp s) (.tmp s') 3) (hg : o.guard = none) (h : availK md ops ins o s = true) (h' : availK md ops ins o s' = true) (hs : kd s = .val (.int .i64 (m : Int))) (hs' : kd s' = .val (.int .i64 (n : Int))) (hk : ∀ d, o.dst = some d → kd d = .val (.bool b)) : StQ md ops Q nt ins kd w0 o :=
 kPure2 s s' _ _ (.bool b) hg h h' hs hs' (fun a w e1 e2 => by
  unfold execOp
  simp only [ho, e1, e2, Sem.run_bind, run_eqN m n]
  rw [hb]
  rfl) hk
end
open scoped Classical in
set_option maxHeartbeats 1000000 in
theorem l11Same_any (X Y X' Y' : List ByteArray) (a b c d : Value) (w : World) (ha : Strs w a X) (hb : Strs w b Y) (hc : Strs w c X') (hd : Strs w d Y') :
  Calls Tryz.prog 172 #[.agg #[a, b], .agg #[c, d]] w fun e w' => e = .returned (.bool (decide (((X, Y) : SqT) = (X', Y')))) ∧ Keeps w w' := by
 have kA := (Keeps.refl w).alloc (.cells #[a, b] 26)
 obtain ⟨c0, c1⟩ := BoxQ.made w a b 26
 have kB := (Keeps.refl (w.alloc (.cells #[a, b] 26))).alloc (.cells #[c, d] 26)
 obtain ⟨d0, d1⟩ := BoxQ.made (w.alloc (.cells #[a, b] 26)) c d 26
 have hz : (w.alloc (.cells #[a, b] 26)).heap.size = w.heap.size + 1 := by simp
 rw [hz] at d0 d1
 have K := kA.trans kB
 have H1 := hid (l01Words_any X X' a c _ (ha.keeps K) (hc.keeps K))
 have H2 := hid (fun wz (kz : Keeps w wz) => l01Words_any Y Y' b d wz (hb.keeps kz) (hd.keeps kz))
 have HE : Hid (decide (((X, Y) : SqT) = (X', Y')) = (decide (X = X') && decide (Y = Y'))) := hid (by
  rw [Bool.eq_iff_iff, Bool.and_eq_true, decide_eq_true_eq, decide_eq_true_eq, decide_eq_true_eq]
  exact Prod.mk.injEq _ _ _ _ ▸ Iff.rfl)
 generalize decide (((X, Y) : SqT) = (X', Y')) = r at *
 generalize decide (X = X') = b1 at *
 generalize decide (Y = Y') = b2 at *
 replace c0 := kB.cell c0
 replace c1 := kB.cell c1
 obtain ⟨p1, m1, q1, rfl⟩ := ha.sh
 obtain ⟨p2, m2, q2, rfl⟩ := hb.sh
 obtain ⟨p3, m3, q3, rfl⟩ := hc.sh
 obtain ⟨p4, m4, q4, rfl⟩ := hd.sh
 have HC := hid (And.intro c1 d1)
 clear ha hb hc hd hz kA kB c1 d1
 cases b1
 ·have HR : Hid (r = false) := hid HE.out
  go_enter Tryz.func172, Tryz.ntmps172
  go_wp2_with fail
  refine H1.out.mono ?_; rintro e w2 ⟨rfl, k2⟩
  go_wp2_with fail
  go_ret
  exact ⟨ret_bool HR.out.symm, K.trans k2⟩
 ·have HR : Hid (r = b2) := hid (by rw [HE.out, Bool.true_and])
  go_enter Tryz.func172, Tryz.ntmps172
  go_wp2_with fail
  refine H1.out.mono ?_; rintro e w2 ⟨rfl, k2⟩
  have e1 := k2.cell HC.out.1
  have e2 := k2.cell HC.out.2
  have H3 := hid (H2.out _ (K.trans k2))
  clear H1 H2
  go_wp2_with fail
  refine H3.out.mono ?_; rintro e w3 ⟨rfl, k3⟩
  go_wp2_with fail
  go_ret
  exact ⟨ret_bool HR.out.symm, (K.trans k2).trans k3⟩
open scoped Classical in
set_option maxRecDepth 100000 in
set_option maxHeartbeats 8000000 in
theorem l11Correct_any (lg : ByteArray) (steps : List StT) (k : Nat) (hk : k < steps.length) (_hk60 : steps.length ≤ 1000) (hM : MidSt steps) (hbef : ∀ j (h : j < steps.length), j < k → isQ steps[j].l steps[j].r = true) (v : Value) (w : World) (hv : StL w v steps) :
  Calls Tryz.prog 131 #[.string lg, v, .int .i64 k] w fun e w' => e = .returned (.bool (corB (lgN lg) steps k steps[k])) ∧ Keeps w w' := by
 have HV := hid (fun wz (kz : Keeps w wz) => hv.keeps kz)
 obtain ⟨p, cap, rfl, hle, hmx, _⟩ := hv.shape
 unfold maxLen at hmx
 obtain ⟨b, off, p1, n1, c1, p2, n2, c2, p3, n3, c3, rfl, ⟨z0, z1, z2, z3, z4⟩, hpr, hl, hr⟩ := hv.get k hk
 have HBF := hid hbef
 obtain ⟨m1, m2, m3⟩ := hM steps[k] (List.getElem_mem hk)
 have HE : Hid (corB (lgN lg) steps k steps[k] = (isQ steps[k].l steps[k].r && (steps[k].pr.all (fun i => inR i 0 ((k : Int) - 1)) && fitB (lgN lg) steps steps[k]))) := hid rfl
 generalize corB (lgN lg) steps k steps[k] = R at *
 have hkk : (k : Int) < steps.length := by omega
 generalize steps[k] = x at *
 have kA := (Keeps.refl w).alloc (.cells #[.int .i64 x.rule, .slice p1 n1 c1, .slice p2 n2 c2, .slice p3 n3 c3, .string x.main] 68)
 have hbx := StB.made w x _ _ _ hpr hl hr
 have HX := hid hbx
 have HF := hid (of1_any x.rule p1 p2 p3 n1 c1 n2 c2 n3 c3 x.main (w.alloc (.cells #[.int .i64 x.rule, .slice p1 n1 c1, .slice p2 n2 c2, .slice p3 n3 c3, .string x.main] 68)))
 have HM1 := hid m1
 have HM2 := hid m2
 clear hv hbef hM hpr hl hr hbx m1 m2
 go_enter Tryz.func131, Tryz.ntmps131
 go_wp2_with fail
 refine HF.out.mono ?_; rintro e w2 ⟨rfl, k2⟩
 have kQ := (Keeps.refl w2).alloc (.cells #[.slice p2 n2 c2, .slice p3 n3 c3] 26)
 have hq2 := BoxG.made w2 26 [.slice p2 n2 c2, .slice p3 n3 c3] (by simp) (by simp)
 have HB2 := hid ((HX.out.keeps k2).keeps kQ)
 have HQ2 := hid hq2
 have K2 := (kA.trans k2).trans kQ
 have HIS := hid (l11Is_any x.l x.r _ _ _ HB2.out.sl.1 HB2.out.sr.1 HM1.out HM2.out)
 clear z0 z1 z2 z3 z4 kA k2 kQ hq2 HX HF
 go_upto_region 3 with fail
 generalize w2.alloc (.cells #[.slice p2 n2 c2, .slice p3 n3 c3] 26) = w3 at *
 have x0 := HQ2.out.cell 0 (by simp)
 have x1 := HQ2.out.cell 1 (by simp)
 simp only [List.getElem_cons_zero, List.getElem_cons_succ] at x0 x1
 go_wp2_with fail
 refine HIS.out.mono ?_; rintro e w4 ⟨rfl, k4⟩
 have HB4 := hid (HB2.out.keeps k4)
 have HQ4 := hid (HQ2.out.keeps k4)
 have K4 := K2.trans k4
 clear HB2 HQ2 HIS k4 K2 x0 x1
 cases hq : isQ x.l x.r
 ·rw [hq] at HE
  have HR : Hid (R = false) := hid HE.out
  clear HE hq
  go_wp2_with fail
  go_ret
  exact ⟨ret_bool HR.out.symm, K4⟩
 ·obtain ⟨l1, l2, s1, s2⟩ := isQ_iff hq
  rw [hq, Bool.true_and] at HE
  have HS1 := hid s1
  have HS2 := hid s2
  clear hq s1 s2
  have hprl : x.pr.length = n1 := by
   obtain ⟨_, _, e, _⟩ := HB4.out.pr
   cases e; rfl
  have hprs : x.pr.length ≤ 2147483648 := by
   obtain ⟨_, _, _, _, _, _, h⟩ := HB4.out.pr
   exact h
  have HPL := hid hprl
  rw [hprl] at hprs
  clear hprl
  obtain ⟨y0, y1, y2, y3, y4⟩ := HB4.out.cells
  go_wp2_with fail
  go_loopw [9] (fun i' wr => ∃ i : Nat, i ≤ n1 ∧ i' = .int .i64 i ∧ (∀ j (h : j < x.pr.length), j < i → inR x.pr[j] 0 ((k : Int) - 1) = true) ∧ w4 = wr) (fun i' _ => n1 - (intOf i').toNat)
  case atStart => exact ⟨0, by omega, rfl, fun j _ h => by omega, rfl⟩
  case round =>
   obtain ⟨i, hi, rfl, hall, rfl⟩ := hrel
   have HA := hid hall
   clear hall
   by_cases hlt : i < n1
   ·have hlt' : (i : Int) < n1 := by omega
    have hix : i < x.pr.length := by have := HPL.out; omega
    obtain ⟨bp, op, ep, zp⟩ := HB4.out.pr.int i hix
    cases ep
    have HI := hid (fun wz => l01In_any x.pr[i] 0 ((k : Int) - 1) wz)
    have HYES : Hid (inR x.pr[i] 0 ((k : Int) - 1) = true → ∀ j (h : j < x.pr.length), j < i + 1 → inR x.pr[j] 0 ((k : Int) - 1) = true) := hid (fun h j hj hji => by
     by_cases e : j = i
     ·subst e; exact h
     ·exact HA.out j hj (by omega))
    have HNO : Hid (inR x.pr[i] 0 ((k : Int) - 1) = false → R = false) := hid (fun h => by
     rw [HE.out, show x.pr.all (fun i => inR i 0 ((k : Int) - 1)) = false from List.all_eq_false.2 ⟨x.pr[i], List.getElem_mem hix, by rw [h]; simp⟩, Bool.false_and])
    generalize inR x.pr[i] 0 ((k : Int) - 1) = b1 at *
    generalize x.pr[i] = pi at *
    cases b1
    ·have HR := hid (HNO.out rfl)
     clear HNO HYES HE
     go_wp2_with fail
     refine (HI.out _).mono ?_; rintro e w' ⟨rfl, rfl⟩
     go_wp2_with fail
     go_ret
     exact ⟨ret_bool HR.out.symm, K4⟩
    ·have HA2 := hid (HYES.out rfl)
     clear HNO HYES
     go_wp2_with fail
     refine (HI.out _).mono ?_; rintro e w' ⟨rfl, rfl⟩
     go_wp2_with fail
     go_roundw
     case rel => exact ⟨i + 1, by omega, by go_num, HA2.out, by trivial⟩
     case measure => simp [intOf]; omega
   ·obtain rfl : i = n1 := by omega
    have hlt' : ¬ ((i : Int) < i) := by omega
    have HALL : Hid (∀ j (h : j < x.pr.length), 0 ≤ x.pr[j] ∧ x.pr[j] < k) := hid (fun j h => by
     have := HA.out j h (by have := HPL.out; omega)
     unfold inR at this
     have := of_decide_eq_true this
     omega)
    have HE2 : Hid (R = fitB (lgN lg) steps x) := hid (by
     rw [HE.out, show x.pr.all (fun i => inR i 0 ((k : Int) - 1)) = true from List.all_eq_true.2 (fun q hq => by
      obtain ⟨j, hj, rfl⟩ := List.getElem_of_mem hq
      exact HA.out j hj (by have := HPL.out; omega)), Bool.true_and])
    clear HE HA
    by_cases hr13 : x.rule = 13
    ·have HE3 : Hid (R = (decide (x.pr.length = 1) && decide (x.main = ⟨#[]⟩) && (subS (stAt steps (x.pr.getD 0 0)).l x.l && subS (stAt steps (x.pr.getD 0 0)).r x.r))) := hid (by
      rw [HE2.out]
      unfold fitB
      rw [if_pos hr13])
     rw [hr13] at y0
     clear HE2 hr13
     by_cases h1 : i = 1
     ·subst h1
      have hx1 : x.pr.length = 1 := HPL.out
      have HE4 : Hid (R = (decide (x.main = ⟨#[]⟩) && (subS (stAt steps (x.pr.getD 0 0)).l x.l && subS (stAt steps (x.pr.getD 0 0)).r x.r))) := hid (by
       rw [HE3.out, decide_eq_true hx1, Bool.true_and])
      have h0 : 0 < x.pr.length := by omega
      obtain ⟨bp, op, ep, zp⟩ := HB4.out.pr.int 0 h0
      cases ep
      rw [Nat.add_zero] at zp
      have hp0 := HALL.out 0 h0
      have hg0 : x.pr.getD 0 0 = x.pr[0] := by rw [List.getD_eq_getElem?_getD, List.getElem?_eq_getElem h0]; rfl
      rw [hg0] at HE4
      clear hx1 hg0 HE3
      by_cases hm : x.main = ⟨#[]⟩
      ·rw [decide_eq_true hm, Bool.true_and] at HE4
       rw [hm] at y4
       have HMM := hid hm
       clear hm
       obtain ⟨i0, hi0⟩ : ∃ i0 : Nat, x.pr[0] = (i0 : Int) := ⟨x.pr[0].toNat, by omega⟩
       rw [hi0] at hp0 HE4 zp
       have hik : i0 < k := by omega
       have his : i0 < steps.length := by omega
       have HBJ := HBF.out i0 his hik
       rw [stAt_get (by omega) (by simpa using his), show steps[((i0 : Nat) : Int).toNat]'(by simpa using his) = steps[i0] from rfl] at HE4
       obtain ⟨b', o', q1, u1, e1, q2, u2, e2, q3, u3, e3, eo, ⟨f0, f1, f2, f3, f4⟩, jpr, jl, jr⟩ := (HV.out _ K4).get i0 his
       cases eo
       have hii : (i0 : Int) < steps.length := by omega
       generalize steps[i0] = y at *
       have hP := StB.made w4 y _ _ _ jpr jl jr
       have kP := (Keeps.refl w4).alloc (.cells #[.int .i64 y.rule, .slice q1 u1 e1, .slice q2 u2 e2, .slice q3 u3 e3, .string y.main] 68)
       obtain ⟨g1, g2, -, -⟩ := isQ_iff HBJ
       rw [← uniS_sub HS1.out.2, ← uniS_sub HS2.out.2] at HE4
       have HPB := hid hP
       have HB5 := hid (HB4.out.keeps kP)
       have K5 := K4.trans kP
       clear HB4 hP jpr jl jr HBJ HALL hi0
       go_upto_region 14 with fail
       generalize w4.alloc (.cells #[.int .i64 y.rule, .slice q1 u1 e1, .slice q2 u2 e2, .slice q3 u3 e3, .string y.main] 68) = w5 at *
       have kd := (Keeps.refl w5).drew
       have hx2 := (HB5.out.keeps kd).cells.2.2.1
       have hx3 := (HB5.out.keeps kd).cells.2.2.2.1
       have hy2 := (HPB.out.keeps kd).cells.2.2.1
       have hy3 := (HPB.out.keeps kd).cells.2.2.2.1
       have sxl := HB5.out.sl.keeps kd
       have sxr := HB5.out.sr.keeps kd
       have syl := HPB.out.sl.keeps kd
       have syr := HPB.out.sr.keeps kd
       obtain ⟨rp, hrp⟩ : ∃ rp, rp = w4.heap.size := ⟨_, rfl⟩
       obtain ⟨rx, hrx⟩ : ∃ rx, rx = w.heap.size := ⟨_, rfl⟩
       rw [← hrp] at hy2 hy3 ⊢
       rw [← hrx] at hx2 hx3 ⊢
       clear hrp hrx
       generalize hb2 : decide ((uniS x.r y.r).length = x.r.length) = b2 at *
       generalize hb1 : decide ((uniS x.l y.l).length = x.l.length) = b1 at *
       have HR := hid HE4.out
       clear HE4
       cases b1
       ·refine wp_region_kinds (L := 23) (nt := 121) (ins := [7, 10]) (ds := [58, 59, 60, 61, 62, 63, 64, 65, 66, 67, 68, 69, 70, 71, 72, 73, 74, 75, 76, 77, 78, 79, 6]) (by kernel_rfl) (by kernel_rfl) (fun s v w' => ((fun s => if s = 6 then .val (.bool false) else if s = 7 then .val (.pointer (some ⟨rx, 0, none⟩)) else if s = 10 then .val (.pointer (some ⟨rp, 0, none⟩)) else if s = 58 then .val (.pointer (some ⟨rx, 2, none⟩)) else if s = 59 then .strs (x.l) else if s = 60 then .val (.pointer (some ⟨rp, 2, none⟩)) else if s = 61 then .strs (y.l) else if s = 62 then .strs (uniS x.l y.l) else if s = 63 then .val (.int .i64 (((uniS x.l y.l).length : Nat) : Int)) else if s = 64 then .val (.pointer (some ⟨rx, 2, none⟩)) else if s = 65 then .strs (x.l) else if s = 66 then .val (.int .i64 (((x.l).length : Nat) : Int)) else if s = 67 then .val (.bool false) else if s = 68 then .val (.bool false) else if s = 79 then .val (.bool false) else .any : Nat → Kq) s).holds v w') (fun _ _ _ _ h hv => Kq.keeps h hv) ?_ (by kernel_rfl) rfl ?_ ?_
        ·refine lK (kPure1 7 (.pointer (some ⟨rx, 0, none⟩)) (.pointer (some ⟨rx, 2, none⟩)) rfl (by kernel_rfl) rfl (fun a w1 h1 => by unfold execOp; simp only [h1, Sem.run_bind, run_fieldSt2 rx]; rfl) (fun d hd => by cases hd; rfl)) ?_
         refine lK (kLoadS 58 _ _ _ rfl rfl (by kernel_rfl) rfl hx2 sxl (fun d hd => by cases hd; rfl)) ?_
         refine lK (kPure1 10 (.pointer (some ⟨rp, 0, none⟩)) (.pointer (some ⟨rp, 2, none⟩)) rfl (by kernel_rfl) rfl (fun a w1 h1 => by unfold execOp; simp only [h1, Sem.run_bind, run_fieldSt2 rp]; rfl) (fun d hd => by cases hd; rfl)) ?_
         refine lK (kLoadS 60 _ _ _ rfl rfl (by kernel_rfl) rfl hy2 syl (fun d hd => by cases hd; rfl)) ?_
         refine lK (kUnion 59 61 (x.l) (y.l) rfl rfl (by kernel_rfl) (by kernel_rfl) rfl rfl (by omega) (fun d hd => by cases hd; rfl)) ?_
         refine lK (kLen 62 (uniS x.l y.l) rfl rfl (by kernel_rfl) rfl (fun d hd => by cases hd; rfl)) ?_
         refine lK (kPure1 7 (.pointer (some ⟨rx, 0, none⟩)) (.pointer (some ⟨rx, 2, none⟩)) rfl (by kernel_rfl) rfl (fun a w1 h1 => by unfold execOp; simp only [h1, Sem.run_bind, run_fieldSt2 rx]; rfl) (fun d hd => by cases hd; rfl)) ?_
         refine lK (kLoadS 64 _ _ _ rfl rfl (by kernel_rfl) rfl hx2 sxl (fun d hd => by cases hd; rfl)) ?_
         refine lK (kLen 65 (x.l) rfl rfl (by kernel_rfl) rfl (fun d hd => by cases hd; rfl)) ?_
         refine lK (kEqN 63 66 ((uniS x.l y.l).length) ((x.l).length) false hb1 rfl rfl (by kernel_rfl) (by kernel_rfl) rfl rfl (fun d hd => by cases hd; rfl)) ?_
         refine lK (kMove 67 (.inl rfl) rfl (by kernel_rfl) (fun d hd => by cases hd; rfl)) ?_
         refine lK (kOff 10 68 false rfl rfl (by decide) (by kernel_rfl) rfl (fun d hd => by cases hd; rfl)) ?_
         refine lK (kOff 10 68 false rfl rfl (by decide) (by kernel_rfl) rfl (fun d hd => by cases hd; rfl)) ?_
         refine lK (kOff 10 68 false rfl rfl (by decide) (by kernel_rfl) rfl (fun d hd => by cases hd; rfl)) ?_
         refine lK (kOff 10 68 false rfl rfl (by decide) (by kernel_rfl) rfl (fun d hd => by cases hd; rfl)) ?_
         refine lK (kOff 10 68 false rfl rfl (by decide) (by kernel_rfl) rfl (fun d hd => by cases hd; rfl)) ?_
         refine lK (kOff 10 68 false rfl rfl (by decide) (by kernel_rfl) rfl (fun d hd => by cases hd; rfl)) ?_
         refine lK (kOff 10 68 false rfl rfl (by decide) (by kernel_rfl) rfl (fun d hd => by cases hd; rfl)) ?_
         refine lK (kOff 10 68 false rfl rfl (by decide) (by kernel_rfl) rfl (fun d hd => by cases hd; rfl)) ?_
         refine lK (kOff 10 68 false rfl rfl (by decide) (by kernel_rfl) rfl (fun d hd => by cases hd; rfl)) ?_
         refine lK (kOff 10 68 false rfl rfl (by decide) (by kernel_rfl) rfl (fun d hd => by cases hd; rfl)) ?_
         refine lK (kPickF 68 _ (.bool false) rfl rfl (by kernel_rfl) rfl (fun d hd => by cases hd; rfl)) ?_
         refine lK (kMove 79 (.inr rfl) rfl (by kernel_rfl) (fun d hd => by cases hd; rfl)) True.intro
        ·intro s hs
         have : s = 7 ∨ s = 10 := by simpa using hs
         rcases this with rfl | rfl
         ·exact rfl
         ·exact rfl
        ·intro f w' hk hv
         have g6 : f 6 = .bool false := hv 6 (by decide)
         clear hv hb2
         simp only [putAll, Act.put, List.setIfInBounds_toArray, List.set_cons_zero, List.set_cons_succ, g6]
         clear g6
         go_wp2_with fail
         go_ret
         exact ⟨ret_bool (by rw [HR.out]; rfl), (K5.trans kd).trans hk⟩
       ·refine wp_region_kinds (L := 23) (nt := 121) (ins := [7, 10]) (ds := [58, 59, 60, 61, 62, 63, 64, 65, 66, 67, 68, 69, 70, 71, 72, 73, 74, 75, 76, 77, 78, 79, 6]) (by kernel_rfl) (by kernel_rfl) (fun s v w' => ((fun s => if s = 6 then .val (.bool b2) else if s = 7 then .val (.pointer (some ⟨rx, 0, none⟩)) else if s = 10 then .val (.pointer (some ⟨rp, 0, none⟩)) else if s = 58 then .val (.pointer (some ⟨rx, 2, none⟩)) else if s = 59 then .strs (x.l) else if s = 60 then .val (.pointer (some ⟨rp, 2, none⟩)) else if s = 61 then .strs (y.l) else if s = 62 then .strs (uniS x.l y.l) else if s = 63 then .val (.int .i64 (((uniS x.l y.l).length : Nat) : Int)) else if s = 64 then .val (.pointer (some ⟨rx, 2, none⟩)) else if s = 65 then .strs (x.l) else if s = 66 then .val (.int .i64 (((x.l).length : Nat) : Int)) else if s = 67 then .val (.bool true) else if s = 68 then .val (.bool true) else if s = 69 then .val (.pointer (some ⟨rx, 3, none⟩)) else if s = 70 then .strs (x.r) else if s = 71 then .val (.pointer (some ⟨rp, 3, none⟩)) else if s = 72 then .strs (y.r) else if s = 73 then .strs (uniS x.r y.r) else if s = 74 then .val (.int .i64 (((uniS x.r y.r).length : Nat) : Int)) else if s = 75 then .val (.pointer (some ⟨rx, 3, none⟩)) else if s = 76 then .strs (x.r) else if s = 77 then .val (.int .i64 (((x.r).length : Nat) : Int)) else if s = 78 then .val (.bool b2) else if s = 79 then .val (.bool b2) else .any : Nat → Kq) s).holds v w') (fun _ _ _ _ h hv => Kq.keeps h hv) ?_ (by kernel_rfl) rfl ?_ ?_
        ·refine lK (kPure1 7 (.pointer (some ⟨rx, 0, none⟩)) (.pointer (some ⟨rx, 2, none⟩)) rfl (by kernel_rfl) rfl (fun a w1 h1 => by unfold execOp; simp only [h1, Sem.run_bind, run_fieldSt2 rx]; rfl) (fun d hd => by cases hd; rfl)) ?_
         refine lK (kLoadS 58 _ _ _ rfl rfl (by kernel_rfl) rfl hx2 sxl (fun d hd => by cases hd; rfl)) ?_
         refine lK (kPure1 10 (.pointer (some ⟨rp, 0, none⟩)) (.pointer (some ⟨rp, 2, none⟩)) rfl (by kernel_rfl) rfl (fun a w1 h1 => by unfold execOp; simp only [h1, Sem.run_bind, run_fieldSt2 rp]; rfl) (fun d hd => by cases hd; rfl)) ?_
         refine lK (kLoadS 60 _ _ _ rfl rfl (by kernel_rfl) rfl hy2 syl (fun d hd => by cases hd; rfl)) ?_
         refine lK (kUnion 59 61 (x.l) (y.l) rfl rfl (by kernel_rfl) (by kernel_rfl) rfl rfl (by omega) (fun d hd => by cases hd; rfl)) ?_
         refine lK (kLen 62 (uniS x.l y.l) rfl rfl (by kernel_rfl) rfl (fun d hd => by cases hd; rfl)) ?_
         refine lK (kPure1 7 (.pointer (some ⟨rx, 0, none⟩)) (.pointer (some ⟨rx, 2, none⟩)) rfl (by kernel_rfl) rfl (fun a w1 h1 => by unfold execOp; simp only [h1, Sem.run_bind, run_fieldSt2 rx]; rfl) (fun d hd => by cases hd; rfl)) ?_
         refine lK (kLoadS 64 _ _ _ rfl rfl (by kernel_rfl) rfl hx2 sxl (fun d hd => by cases hd; rfl)) ?_
         refine lK (kLen 65 (x.l) rfl rfl (by kernel_rfl) rfl (fun d hd => by cases hd; rfl)) ?_
         refine lK (kEqN 63 66 ((uniS x.l y.l).length) ((x.l).length) true hb1 rfl rfl (by kernel_rfl) (by kernel_rfl) rfl rfl (fun d hd => by cases hd; rfl)) ?_
         refine lK (kMove 67 (.inl rfl) rfl (by kernel_rfl) (fun d hd => by cases hd; rfl)) ?_
         refine lK (kOn 10 68 true rfl rfl (by decide) (by kernel_rfl) rfl (kPure1 7 (.pointer (some ⟨rx, 0, none⟩)) (.pointer (some ⟨rx, 3, none⟩)) rfl (by kernel_rfl) rfl (fun a w1 h1 => by unfold execOp; simp only [h1, Sem.run_bind, run_fieldSt3 rx]; rfl) (fun d hd => by cases hd; rfl))) ?_
         refine lK (kOn 10 68 true rfl rfl (by decide) (by kernel_rfl) rfl (kLoadS 69 _ _ _ rfl rfl (by kernel_rfl) rfl hx3 sxr (fun d hd => by cases hd; rfl))) ?_
         refine lK (kOn 10 68 true rfl rfl (by decide) (by kernel_rfl) rfl (kPure1 10 (.pointer (some ⟨rp, 0, none⟩)) (.pointer (some ⟨rp, 3, none⟩)) rfl (by kernel_rfl) rfl (fun a w1 h1 => by unfold execOp; simp only [h1, Sem.run_bind, run_fieldSt3 rp]; rfl) (fun d hd => by cases hd; rfl))) ?_
         refine lK (kOn 10 68 true rfl rfl (by decide) (by kernel_rfl) rfl (kLoadS 71 _ _ _ rfl rfl (by kernel_rfl) rfl hy3 syr (fun d hd => by cases hd; rfl))) ?_
         refine lK (kOn 10 68 true rfl rfl (by decide) (by kernel_rfl) rfl (kUnion 70 72 (x.r) (y.r) rfl rfl (by kernel_rfl) (by kernel_rfl) rfl rfl (by omega) (fun d hd => by cases hd; rfl))) ?_
         refine lK (kOn 10 68 true rfl rfl (by decide) (by kernel_rfl) rfl (kLen 73 (uniS x.r y.r) rfl rfl (by kernel_rfl) rfl (fun d hd => by cases hd; rfl))) ?_
         refine lK (kOn 10 68 true rfl rfl (by decide) (by kernel_rfl) rfl (kPure1 7 (.pointer (some ⟨rx, 0, none⟩)) (.pointer (some ⟨rx, 3, none⟩)) rfl (by kernel_rfl) rfl (fun a w1 h1 => by unfold execOp; simp only [h1, Sem.run_bind, run_fieldSt3 rx]; rfl) (fun d hd => by cases hd; rfl))) ?_
         refine lK (kOn 10 68 true rfl rfl (by decide) (by kernel_rfl) rfl (kLoadS 75 _ _ _ rfl rfl (by kernel_rfl) rfl hx3 sxr (fun d hd => by cases hd; rfl))) ?_
         refine lK (kOn 10 68 true rfl rfl (by decide) (by kernel_rfl) rfl (kLen 76 (x.r) rfl rfl (by kernel_rfl) rfl (fun d hd => by cases hd; rfl))) ?_
         refine lK (kOn 10 68 true rfl rfl (by decide) (by kernel_rfl) rfl (kEqN 74 77 ((uniS x.r y.r).length) ((x.r).length) b2 hb2 rfl rfl (by kernel_rfl) (by kernel_rfl) rfl rfl (fun d hd => by cases hd; rfl))) ?_
         refine lK (kPickT 68 78 _ (.bool b2) rfl rfl (by kernel_rfl) (by kernel_rfl) rfl rfl (fun d hd => by cases hd; rfl)) ?_
         refine lK (kMove 79 (.inr rfl) rfl (by kernel_rfl) (fun d hd => by cases hd; rfl)) True.intro
        ·intro s hs
         have : s = 7 ∨ s = 10 := by simpa using hs
         rcases this with rfl | rfl
         ·exact rfl
         ·exact rfl
        ·intro f w' hk hv
         have g6 : f 6 = .bool b2 := hv 6 (by decide)
         clear hv hb2
         simp only [putAll, Act.put, List.setIfInBounds_toArray, List.set_cons_zero, List.set_cons_succ, g6]
         clear g6
         go_wp2_with fail
         go_ret
         exact ⟨ret_bool (by rw [HR.out]; rfl), (K5.trans kd).trans hk⟩
      ·have HR : Hid (R = false) := hid (by rw [HE4.out, decide_eq_false hm, Bool.false_and])
       have hm2 := toL_ne hm
       clear HE4 hm
       go_wp2_with fail
       go_ret
       exact ⟨ret_bool HR.out.symm, K4⟩
     ·have h1' : ((i : Int) != 1) = true := by simp; omega
      have HR : Hid (R = false) := hid (by rw [HE3.out, decide_eq_false (by have := HPL.out; omega), Bool.false_and, Bool.false_and])
      clear HE3 h1
      go_wp2_with fail
      go_ret
      exact ⟨ret_bool HR.out.symm, K4⟩
    ·have hr' : (x.rule == 13) = false := by simpa using hr13
     have HE3 : Hid (R = match preR (lgN lg) x.rule.toNat x.l x.r x.main with
      | none => false
      | some ps => decide (ps = x.pr.map (seqAt steps))) := hid (by
      rw [HE2.out]
      unfold fitB
      exact if_neg hr13)
     have HPR := hid (l11Premises_any lg x.rule x.main x.l x.r HS1.out HS2.out _ _ w4 HB4.out.sl HB4.out.sr ⟨by omega, by omega⟩ m3)
     have x0 := HQ4.out.cell 0 (by simp)
     have x1 := HQ4.out.cell 1 (by simp)
     simp only [List.getElem_cons_zero, List.getElem_cons_succ] at x0 x1
     clear HE2 hr13
     go_wp2_with fail
     refine HPR.out.mono ?_; rintro e w5 ⟨v5, b5, rfl, ⟨p5, n5, c5, rfl⟩, hb0, hb1, k5⟩
     have K5 := K4.trans k5
     have HB5 := hid (HB4.out.keeps k5)
     clear x0 x1 y0 y1 y2 y3 y4 HPR HQ4 HB4
     obtain ⟨y0, y1, y2, y3, y4⟩ := HB5.out.cells
     cases b5
     ·have h0 := hb0 rfl
      have HR : Hid (R = false) := hid (by rw [HE3.out, h0])
      clear HE3 hb0 hb1 h0
      go_wp2_with fail
      go_ret
      exact ⟨ret_bool HR.out.symm, K5⟩
     ·obtain ⟨ps, h0, hq5⟩ := hb1 rfl
      have HR : Hid (R = decide (ps = x.pr.map (seqAt steps))) := hid (by rw [HE3.out, h0])
      have hpl := preR_len h0
      obtain ⟨_, _, e5, _⟩ := hq5.shape
      cases e5
      have HQ5 := hid hq5
      clear HE3 hb0 hb1 h0 hq5
      by_cases hln : ps.length = i
      ·have HEQ : Hid ((∀ j (h1 : j < ps.length) (h2 : j < x.pr.length), ps[j] = seqAt steps x.pr[j]) → R = true) := hid (fun h => by
        rw [HR.out]
        exact decide_eq_true (List.ext_getElem (by rw [List.length_map]; have := HPL.out; omega) (fun j h1 h2 => by rw [List.getElem_map]; exact h j h1 (by simpa using h2))))
       have HNE : Hid (∀ j (h1 : j < ps.length) (h2 : j < x.pr.length), decide (ps[j] = seqAt steps x.pr[j]) = false → R = false) := hid (fun j h1 h2 h => by
        rw [HR.out]
        refine decide_eq_false (fun e => ?_)
        have h3 : ps[j] = (x.pr.map (seqAt steps))[j]'(by rw [List.length_map]; exact h2) := by simp only [e]
        rw [List.getElem_map] at h3
        exact absurd h3 (of_decide_eq_false h))
       have HLN := hid hln
       have hln' : ((ps.length : Int) != i) = false := by simp; omega
       rw [hln] at hpl
       clear hln HR
       go_wp2_with fail
       go_loopw [13] (fun j' wr => ∃ j : Nat, j ≤ ps.length ∧ j' = .int .i64 j ∧ (∀ q (h1 : q < ps.length) (h2 : q < x.pr.length), q < j → ps[q] = seqAt steps x.pr[q]) ∧ Keeps w5 wr) (fun j' _ => ps.length - (intOf j').toNat)
       case atStart => exact ⟨0, by omega, rfl, fun _ _ _ h => by omega, Keeps.refl _⟩
       case round =>
        obtain ⟨j, hj, rfl, hall, kw⟩ := hrel
        have HA := hid hall
        clear hall
        by_cases hlt2 : j < ps.length
        ·have hlt3 : (j : Int) < ps.length := by omega
         have hlt4 : j < i := by have := HLN.out; omega
         have hlt5 : (j : Int) < i := by omega
         have hjx : j < x.pr.length := by have := HLN.out; have := HPL.out; omega
         have kd := (Keeps.refl wr).drew
         have KD := kw.trans kd
         have HKD := hid KD
         obtain ⟨bq, oq, r1, t1, s1, r2, t2, s2, eq5, d0, d1, g1, g2⟩ := (HQ5.out.keeps KD).get j hlt2
         cases eq5
         obtain ⟨bp, op, ep, zp⟩ := (HB5.out.keeps KD).pr.int j hjx
         cases ep
         have hp0 := HALL.out j hjx
         obtain ⟨i0, hi0⟩ : ∃ i0 : Nat, x.pr[j] = (i0 : Int) := ⟨x.pr[j].toNat, by omega⟩
         have hik : i0 < k := by omega
         have his : i0 < steps.length := by omega
         have hsq : seqAt steps x.pr[j] = (steps[i0].l, steps[i0].r) := by
          unfold seqAt
          rw [hi0, stAt_get (by omega) (by simpa using his)]
          rfl
         have HYES : Hid (decide (ps[j] = (steps[i0].l, steps[i0].r)) = true → ∀ q (h1 : q < ps.length) (h2 : q < x.pr.length), q < j + 1 → ps[q] = seqAt steps x.pr[q]) := hid (fun h q h1 h2 hq => by
          by_cases e : q = j
          ·subst e
           rw [hsq]
           exact of_decide_eq_true h
          ·exact HA.out q h1 h2 (by omega))
         have HNO : Hid (decide (ps[j] = (steps[i0].l, steps[i0].r)) = false → R = false) := hid (fun h => HNE.out j hlt2 hjx (by rw [hsq]; exact h))
         rw [hi0] at zp
         obtain ⟨b', o', q1, u1, e1, q2, u2, e2, q3, u3, e3, eo, ⟨f0, f1, f2, f3, f4⟩, jpr, jl, jr⟩ := (HV.out _ (K5.trans KD)).get i0 his
         cases eo
         have hii : (i0 : Int) < steps.length := by omega
         have xc := (HB5.out.keeps KD).cells.2.1
         have HSM := hid (fun wz (kz : Keeps wr.drew wz) => l11Same_any ps[j].1 ps[j].2 steps[i0].l steps[i0].r _ _ _ _ wz (g1.keeps kz).1 (g2.keeps kz).1 (jl.keeps kz).1 (jr.keeps kz).1)
         rw [show ((ps[j].1, ps[j].2) : SqT) = ps[j] from rfl] at HSM
         have HO1 := hid (fun wz => of1_any steps[i0].rule q1 q2 q3 u1 e1 u2 e2 u3 e3 steps[i0].main wz)
         clear g1 g2 jpr jl jr hsq hi0 hp0 HA
         generalize decide (ps[j] = (steps[i0].l, steps[i0].r)) = bb at *
         generalize steps[i0] = y at *
         generalize ps[j] = qq at *
         clear y0 y1 y2 y3 y4
         go_wp2_with fail
         go_region_held3 (fun w' => w'.cell? ⟨bq, oq + j * 2, none⟩ = some (.slice r1 t1 s1) ∧ w'.cell? ⟨bq, oq + j * 2 + 1, none⟩ = some (.slice r2 t2 s2) ∧ w'.cell? ⟨w.heap.size, 1, none⟩ = some (.slice (some ⟨bp, op, none⟩) i c1) ∧ w'.cell? ⟨bp, op + j, none⟩ = some (.int .i64 i0) ∧ w'.cell? ⟨b, off + i0 * 5, none⟩ = some (.int .i64 y.rule) ∧ w'.cell? ⟨b, off + i0 * 5 + 1, none⟩ = some (.slice q1 u1 e1) ∧ w'.cell? ⟨b, off + i0 * 5 + 2, none⟩ = some (.slice q2 u2 e2) ∧ w'.cell? ⟨b, off + i0 * 5 + 3, none⟩ = some (.slice q3 u3 e3) ∧ w'.cell? ⟨b, off + i0 * 5 + 4, none⟩ = some (.string y.main)) (first | exact ⟨d0, d1, xc, zp, f0, f1, f2, f3, f4⟩ | exact ⟨d0', d1', xc', zp', f0', f1', f2', f3', f4'⟩ | exact ⟨d0'', d1'', xc'', zp'', f0'', f1'', f2'', f3'', f4''⟩) (first | (go_at_call 41; refine (HO1.out _).mono ?_; rintro e w6 ⟨rfl, k6⟩; have d0' := k6.cell d0; have d1' := k6.cell d1; have xc' := k6.cell xc; have zp' := k6.cell zp; have f0' := k6.cell f0; have f1' := k6.cell f1; have f2' := k6.cell f2; have f3' := k6.cell f3; have f4' := k6.cell f4) | (go_at_call 172; refine (HSM.out _ k6).mono ?_; rintro e w7 ⟨rfl, k7⟩; have d0'' := k7.cell d0'; have d1'' := k7.cell d1'; have xc'' := k7.cell xc'; have zp'' := k7.cell zp'; have f0'' := k7.cell f0'; have f1'' := k7.cell f1'; have f2'' := k7.cell f2'; have f3'' := k7.cell f3'; have f4'' := k7.cell f4'))
         cases bb
         ·have HRF := hid (HNO.out rfl)
          clear HNO HYES
          go_wp2_with fail
          go_ret
          exact ⟨ret_bool HRF.out.symm, ((K5.trans HKD.out).trans k6).trans k7⟩
         ·have HA2 := hid (HYES.out rfl)
          clear HNO HYES
          go_wp2_with fail
          go_roundw
          case rel => exact ⟨j + 1, by omega, by go_num, HA2.out, (HKD.out.trans k6).trans k7⟩
          case measure => simp [intOf]; omega
        ·obtain rfl : j = ps.length := by omega
         have hlt3 : ¬ ((ps.length : Int) < ps.length) := by omega
         have HRT := hid (HEQ.out (fun q h1 h2 => HA.out q h1 h2 h1))
         clear HEQ HNE HA
         go_wp2_with fail
         go_ret
         exact ⟨ret_bool HRT.out.symm, K5.trans kw⟩
      ·have HRF : Hid (R = false) := hid (by
        rw [HR.out]
        refine decide_eq_false (fun e => hln ?_)
        rw [e, List.length_map, HPL.out])
       have hln' : ((ps.length : Int) != i) = true := by simp; omega
       clear hln HR
       go_wp2_with fail
       go_ret
       exact ⟨ret_bool HRF.out.symm, K5⟩
end Go.Proofs.YtkkcfifnkcnceaaGreat
