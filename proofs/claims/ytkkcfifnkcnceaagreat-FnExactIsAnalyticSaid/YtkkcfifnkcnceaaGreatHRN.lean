import Derived.Test.YtkkcfifnkcnceaaGreatHRK
/- Rows of strings that grow. -/
namespace Go.Proofs.YtkkcfifnkcnceaaGreat
open Go.RowKit
def bts (s : ByteArray) : List UInt8 := s.data.toList
def strCells (a : List ByteArray) : List Value := a.map Value.string
theorem strCells_one (a : List ByteArray) : ∀ u ∈ strCells a, u.oneCell' = true := by
 intro u hu; simp [strCells] at hu; obtain ⟨x, _, rfl⟩ := hu; rfl
theorem Strs.at {w : World} {v : Value} {a : List ByteArray} (h : Strs w v a) : ∃ p cap, v = .slice p a.length cap ∧ a.length ≤ cap ∧ cap ≤ maxLen ∧ At w p (strCells a) ∧ a.length ≤ 2147483648 := by
 obtain ⟨p, cap, hv, h1, h2, h3⟩ := h.shape
 subst hv
 refine ⟨p, cap, rfl, h1, h2, fun j hj => ?_, h3⟩
 have hj' : j < a.length := by simpa [strCells] using hj
 obtain ⟨b, off, hp, hc⟩ := h.get j hj'
 exact ⟨b, off, hp, by simpa [strCells] using hc⟩
theorem Strs.ofAt {w : World} {p : Option Addr} {cap : Nat} {a : List ByteArray} (h1 : a.length ≤ cap) (h2 : cap ≤ maxLen) (h : At w p (strCells a)) (h3 : a.length ≤ 2147483648) : Strs w (.slice p a.length cap) a := by
 refine ⟨p, cap, rfl, h1, h2, h3, fun i hi => ?_⟩
 obtain ⟨b, off, hp, hc⟩ := h i (by simpa [strCells] using hi)
 refine ⟨b, off, fun _ => .string a[i], hp, fun c hc' => ?_, rfl⟩
 obtain rfl : c = 0 := by omega
 simpa [strCells] using hc
def OwnS (w : World) (B : Nat) (v : Value) (a : List ByteArray) : Prop := w.ownsRow B 9 1 v a.length (strCells a)
theorem OwnS.strs {w : World} {B : Nat} {v : Value} {a : List ByteArray} (h : OwnS w B v a) (hl : a.length ≤ 2147483648) : Strs w v a := by
 obtain ⟨p, cap, rfl, h2, h3, h4⟩ := At.of_own h
 exact Strs.ofAt h2 h3 h4 hl
theorem OwnS.keeps {w w' : World} {B : Nat} {v : Value} {a : List ByteArray} (h : OwnS w B v a) (k : Keeps w w') : OwnS w' B v a := own_keeps h k
theorem OwnS.mono {w : World} {B B' : Nat} {v : Value} {a : List ByteArray} (h : OwnS w B v a) (k : B' ≤ B) : OwnS w B' v a := own_mono h k
theorem OwnS.nil (w : World) (B : Nat) : OwnS w B (.slice none 0 0) [] := World.ownsRow_nil w B _ 1
theorem OwnS.len {w : World} {B : Nat} {v : Value} {a : List ByteArray} (h : OwnS w B v a) : ∀ k, v.ownBlock = some k → B ≤ k ∧ k < w.heap.size := World.ownsRow.lt h
theorem infoS : (Tryz.prog.info? 9).map (fun i => (i.zero, i.size, i.bytes)) = some (some (.string ⟨#[]⟩), 1, 16) := by kernel_rfl
theorem appSK {w : World} {o : Oper} {a : Act} {K : Act → World → Prop} {Q : Exit → Act → World → Prop} (s x : Operand)
  (ho : o.op = .call { callee := .builtin .append, args := #[s, x], argTypes := #[24, 24] }) (base : Nat) (v : Value) (xs : List ByteArray) (hs : a.eval s = v) (hown : OwnS w base v xs)
  (u : Value) (ys : List ByteArray) (hx : a.eval x = u) (hu : Strs w u ys) (hbase : base ≤ w.heap.size) (hlen : xs.length + ys.length ≤ 2147483648)
  (h : ∀ v' w', OwnS w' base v' (xs ++ ys) → w.grownBy w' v.ownBlock → (∀ k, v.ownBlock = some k → base ≤ k) → K (a.put o.dst v') w') : o.wp Tryz.prog a w K Q := by
 obtain ⟨i0, hi, hz0, hz1, hz2⟩ := info_parts infoS
 obtain ⟨p, cap, rfl, _, _, hat, _⟩ := hu.at
 refine wp_append_at s x _ ho _ i0 _ 1 16 Tryz.underlying24 hi hz0 hz1 hz2 rfl (by decide) base v _ _ hs hown p _ cap _ hx (by simp [strCells]) hat (strCells_one _) (by unfold maxLen; omega) (by omega) hbase ?_
 intro v' w' h1 h2 h3
 refine h v' w' ?_ h2 h3
 unfold OwnS
 rw [List.length_append, show strCells (xs ++ ys) = strCells xs ++ strCells ys by simp [strCells]]
 exact h1
theorem appS {w : World} {ops : Array Oper} {rest : List Oper} {o : Oper} {a : Act} {Q : Exit → Act → World → Prop} (hgd : o.guard = none) (s x : Operand)
  (ho : o.op = .call { callee := .builtin .append, args := #[s, x], argTypes := #[24, 24] }) (base : Nat) (v : Value) (xs : List ByteArray) (hs : a.eval s = v) (hown : OwnS w base v xs)
  (u : Value) (ys : List ByteArray) (hx : a.eval x = u) (hu : Strs w u ys) (hbase : base ≤ w.heap.size) (hlen : xs.length + ys.length ≤ 2147483648)
  (h : ∀ v' w', OwnS w' base v' (xs ++ ys) → w.grownBy w' v.ownBlock → (∀ k, v.ownBlock = some k → base ≤ k) → wpList Tryz.prog ops Q rest (a.put o.dst v') w') : wpList Tryz.prog ops Q (o :: rest) a w :=
 wpList_plain hgd fun _ hK => appSK s x ho base v xs hs hown u ys hx hu hbase hlen fun v' w' h1 h2 h3 => hK _ _ (h v' w' h1 h2 h3)
theorem Strs.lit1 (w : World) (s : ByteArray) : Strs (w.alloc (.cells #[.string s] 9)) (.slice (some ⟨w.heap.size, 0, none⟩) 1 1) [s] := Strs.lit (w := w) [s] (by simp)
theorem OwnS.empty (w : World) : OwnS (w.alloc (.cells #[] 9)) w.heap.size (.slice (some ⟨w.heap.size, 0, none⟩) 0 0) [] :=
 World.ownsRow_made w #[] 0 (Nat.le_refl _) (by simp [maxLen]) (by simp)
theorem bts_inj {s t : ByteArray} (h : bts s = bts t) : s = t := by
 cases s; cases t
 unfold bts at h
 congr 1
 exact Array.toList_inj.1 h
theorem At.drop {w : World} {b off : Nat} {vs : List Value} (h : At w (some ⟨b, off, none⟩) vs) (i : Nat) {o : Nat} (ho : o = off + i) : At w (some ⟨b, o, none⟩) (vs.drop i) := fun j hj => by
 subst ho
 simp at hj
 obtain ⟨b', off', hp, hc⟩ := h (i + j) (by omega)
 cases hp
 exact ⟨b, _, rfl, by rw [Nat.add_assoc, hc]; simp⟩
end Go.Proofs.YtkkcfifnkcnceaaGreat
namespace Go.Proofs.YtkkcfifnkcnceaaGreat
open Go.RowKit
def PlS (v : Value) : Prop := ∀ a n c, v = .slice (some a) n c → a.spot = none
def StrsP (w : World) (v : Value) (l : List ByteArray) : Prop := Strs w v l ∧ PlS v
theorem StrsP.keeps {w w' : World} {v : Value} {l : List ByteArray} (h : StrsP w v l) (k : Keeps w w') : StrsP w' v l := ⟨h.1.keeps k, h.2⟩
theorem PlS.none (n c : Nat) : PlS (.slice Option.none n c) := fun a n c e => by cases e
theorem PlS.at (b o n c : Nat) : PlS (.slice (some ⟨b, o, Option.none⟩) n c) := fun a n c e => by cases e; rfl
theorem OwnS.strsP {w : World} {B : Nat} {v : Value} {a : List ByteArray} (h : OwnS w B v a) (hl : a.length ≤ 2147483648) : StrsP w v a := ⟨h.strs hl, by
 rcases h.2 with ⟨rfl, _⟩ | ⟨g, cap, cur, rfl, _⟩
 ·exact PlS.none _ _
 ·exact PlS.at _ _ _ _⟩
theorem Strs.sh {w : World} {v : Value} {ss : List ByteArray} (h : Strs w v ss) : ∃ p n c, v = .slice p n c := by
 obtain ⟨p, c, e, _⟩ := h.shape
 exact ⟨p, _, c, e⟩
theorem StrsP.sh {w : World} {v : Value} {ss : List ByteArray} (h : StrsP w v ss) : ∃ p n c, v = .slice p n c := h.1.sh
theorem Strs.lit1P (w : World) (s : ByteArray) : StrsP (w.alloc (.cells #[.string s] 9)) (.slice (some ⟨w.heap.size, 0, none⟩) 1 1) [s] := ⟨Strs.lit1 w s, PlS.at _ _ _ _⟩
abbrev SqT := List ByteArray × List ByteArray
def SqL (w : World) (v : Value) (ps : List SqT) : Prop := SlC 2 (fun w f (x : SqT) => (StrsP w (f 0) x.1 ∧ ∃ p n c, f 0 = .slice p n c) ∧ (StrsP w (f 1) x.2 ∧ ∃ p n c, f 1 = .slice p n c)) w v ps
theorem SqL.keeps {w w' : World} {v : Value} {ps : List SqT} (h : SqL w v ps) (k : Keeps w w') : SqL w' v ps :=
 SlC.keeps (R := fun w f (x : SqT) => (StrsP w (f 0) x.1 ∧ ∃ p n c, f 0 = .slice p n c) ∧ (StrsP w (f 1) x.2 ∧ ∃ p n c, f 1 = .slice p n c)) (fun _ _ _ _ k h => ⟨⟨h.1.1.keeps k, h.1.2⟩, ⟨h.2.1.keeps k, h.2.2⟩⟩) h k
theorem SqL.shape {w : World} {v : Value} {ps : List SqT} (h : SqL w v ps) : ∃ p cap, v = .slice p ps.length cap ∧ ps.length ≤ cap ∧ cap ≤ maxLen ∧ ps.length ≤ 2147483648 := by
 obtain ⟨p, cap, hv, h1, h2, h3, _⟩ := h
 exact ⟨p, cap, hv, h1, h2, h3⟩
theorem SqL.get {w : World} {p : Option Addr} {n cap : Nat} {ps : List SqT} (h : SqL w (.slice p n cap) ps) (i : Nat) (hi : i < ps.length) :
  ∃ b off p1 n1 c1 p2 n2 c2, p = some ⟨b, off, none⟩ ∧ w.cell? ⟨b, off + i * 2, none⟩ = some (.slice p1 n1 c1) ∧ w.cell? ⟨b, off + i * 2 + 1, none⟩ = some (.slice p2 n2 c2) ∧ StrsP w (.slice p1 n1 c1) ps[i].1 ∧ StrsP w (.slice p2 n2 c2) ps[i].2 := by
 obtain ⟨p', cap', hv, h1, h2, h3, h4⟩ := h
 cases hv
 obtain ⟨b, off, f, hp, hc, ⟨hr1, p1, n1, c1, e1⟩, ⟨hr2, p2, n2, c2, e2⟩⟩ := h4 i hi
 have a := hc 0 (by omega)
 have b' := hc 1 (by omega)
 rw [e1] at a hr1
 rw [e2] at b' hr2
 exact ⟨b, off, p1, n1, c1, p2, n2, c2, hp, a, b', hr1, hr2⟩
def sqCells : List (Value × Value) → List Value
 | [] => []
 | x :: l => x.1 :: x.2 :: sqCells l
theorem SqL.lit (w : World) (us : List (Value × Value)) (ps : List SqT) (hl : ps.length = us.length) (hm : ps.length ≤ 4) (h : ∀ i (h1 : i < us.length) (h2 : i < ps.length), StrsP w us[i].1 ps[i].1 ∧ StrsP w us[i].2 ps[i].2) :
  SqL (w.alloc (.cells (sqCells us).toArray 26)) (.slice (some ⟨w.heap.size, 0, none⟩) us.length us.length) ps := by
 have k := (Keeps.refl w).alloc (.cells (sqCells us).toArray 26)
 have hg : ∀ (us : List (Value × Value)) (i : Nat) (hi : i < us.length), (sqCells us)[i * 2]? = some us[i].1 ∧ (sqCells us)[i * 2 + 1]? = some us[i].2 := by
  intro us
  induction us with
  | nil => intro i hi; simp at hi
  | cons x l ih =>
   intro i hi
   cases i with
   | zero => simp [sqCells]
   | succ i =>
    have := ih i (by simpa using hi)
    rw [show (i + 1) * 2 = i * 2 + 1 + 1 by omega, show i * 2 + 1 + 1 + 1 = (i * 2 + 1) + 1 + 1 by omega]
    simpa [sqCells] using this
 refine ⟨_, us.length, by rw [hl], by omega, by unfold maxLen; omega, by omega, fun i hi => ?_⟩
 have hi' : i < us.length := by omega
 obtain ⟨g1, g2⟩ := hg us i hi'
 obtain ⟨r1, r2⟩ := h i hi' hi
 refine ⟨w.heap.size, 0, fun c => if c = 0 then us[i].1 else us[i].2, rfl, fun c hc => ?_, ⟨by simpa using r1.keeps k, by simpa using r1.sh⟩, ⟨by simpa using r2.keeps k, by simpa using r2.sh⟩⟩
 have hc2 : c = 0 ∨ c = 1 := by omega
 rcases hc2 with rfl | rfl
 ·rw [cell_of_row _ w.heap.size (0 + i * 2 + 0) (sqCells us).toArray 26 (0, 0) (heap_alloc_new w _)]
  simp [g1]
 ·rw [cell_of_row _ w.heap.size (0 + i * 2 + 1) (sqCells us).toArray 26 (0, 0) (heap_alloc_new w _)]
  simp [g2]
def SdL (w : World) (v : Value) (xs : List (List ByteArray)) : Prop := SlC 1 (fun w f (x : List ByteArray) => StrsP w (f 0) x) w v xs
theorem SdL.keeps {w w' : World} {v : Value} {xs : List (List ByteArray)} (h : SdL w v xs) (k : Keeps w w') : SdL w' v xs :=
 SlC.keeps (R := fun w f (x : List ByteArray) => StrsP w (f 0) x) (fun _ _ _ _ k h => h.keeps k) h k
theorem SdL.shape {w : World} {v : Value} {xs : List (List ByteArray)} (h : SdL w v xs) : ∃ p cap, v = .slice p xs.length cap ∧ xs.length ≤ cap ∧ cap ≤ maxLen ∧ xs.length ≤ 2147483648 := by
 obtain ⟨p, cap, hv, h1, h2, h3, _⟩ := h
 exact ⟨p, cap, hv, h1, h2, h3⟩
theorem SdL.get {w : World} {p : Option Addr} {n cap : Nat} {xs : List (List ByteArray)} (h : SdL w (.slice p n cap) xs) (i : Nat) (hi : i < xs.length) :
  ∃ b off p1 n1 c1, p = some ⟨b, off, none⟩ ∧ w.cell? ⟨b, off + i, none⟩ = some (.slice p1 n1 c1) ∧ StrsP w (.slice p1 n1 c1) xs[i] := by
 obtain ⟨p', cap', hv, h1, h2, h3, h4⟩ := h
 cases hv
 obtain ⟨b, off, f, hp, hc, hr⟩ := h4 i hi
 obtain ⟨p1, n1, c1, e⟩ := hr.sh
 have a := hc 0 (by omega)
 rw [e] at a hr
 exact ⟨b, off, p1, n1, c1, hp, by simpa using a, hr⟩
theorem SdL.lit (w : World) (us : List Value) (xs : List (List ByteArray)) (hl : xs.length = us.length) (hm : xs.length ≤ 4) (h : ∀ i (h1 : i < us.length) (h2 : i < xs.length), StrsP w us[i] xs[i]) :
  SdL (w.alloc (.cells us.toArray 24)) (.slice (some ⟨w.heap.size, 0, none⟩) us.length us.length) xs :=
 SlC.lit (R := fun w f (x : List ByteArray) => StrsP w (f 0) x) (fun _ _ _ _ k h => h.keeps k) w 24 us xs hl (by omega) h
inductive Kq where
 | val (v : Value) | strs (l : List ByteArray) | sq (x y : List ByteArray) | sqs (ps : List SqT) | sds (xs : List (List ByteArray)) | nd (t : Fm) | any | ows (B : Nat) (l : List ByteArray) | oq (B : Nat) (x y : List ByteArray) | orow (B : Nat) (x y : List ByteArray) | pr (p : Value → World → Prop) (h : ∀ v w w', Keeps w w' → p v w → p v w')
def Kq.holds : Kq → Value → World → Prop
 | .val u, v, _ => v = u
 | .strs l, v, w => StrsP w v l
 | .sq x y, v, w => ∃ a b, v = .agg #[a, b] ∧ StrsP w a x ∧ StrsP w b y
 | .sqs ps, v, w => SqL w v ps
 | .sds xs, v, w => SdL w v xs
 | .nd t, v, w => Nds w v t.enc
 | .any, _, _ => True
 | .ows B l, v, w => OwnS w B v l
 | .oq B x y, v, w => ∃ a b, v = .agg #[a, b] ∧ OwnS w B a x ∧ OwnS w B b y
 | .orow B x y, v, w => ∃ p a b, v = .slice p 1 1 ∧ At w p [a, b] ∧ OwnS w B a x ∧ OwnS w B b y
 | .pr p _, v, w => p v w
theorem Kq.keeps {w w' : World} (h : Keeps w w') : ∀ {k : Kq} {v : Value}, k.holds v w → k.holds v w'
 | .val _, _, hv => hv
 | .any, _, hv => hv
 | .strs _, _, hv => StrsP.keeps hv h
 | .sqs _, _, hv => SqL.keeps hv h
 | .sds _, _, hv => SdL.keeps hv h
 | .nd _, _, hv => Nds.keeps hv h
 | .ows _ _, _, hv => OwnS.keeps hv h
 | .pr _ g, _, hv => g _ _ _ h hv
 | .oq _ _ _, _, ⟨a, b, e, h1, h2⟩ => ⟨a, b, e, h1.keeps h, h2.keeps h⟩
 | .orow _ _ _, _, ⟨p, a, b, e, h0, h1, h2⟩ => ⟨p, a, b, e, h0.keeps h, h1.keeps h, h2.keeps h⟩
 | .sq _ _, _, ⟨a, b, e, h1, h2⟩ => ⟨a, b, e, h1.keeps h, h2.keeps h⟩
def availK (md : Region.Mode) (ops : Array Oper) (ins : List Nat) (o : Oper) (s : Nat) : Bool := ins.contains s || (List.range ops.size).any fun j => depB md o j && dstB ops j s
section
variable {md : Region.Mode} {ops : Array Oper} {Q : Exit → Act → World → Prop} {nt : Nat} {ins : List Nat} {kd : Nat → Kq} {w0 : World} {o : Oper}
def StQ (md : Region.Mode) (ops : Array Oper) (Q : Exit → Act → World → Prop) (nt : Nat) (ins : List Nat) (kd : Nat → Kq) (w0 : World) (o : Oper) : Prop := StepK Tryz.prog md ops Q nt ins (fun s v w => (kd s).holds v w) w0 o
theorem getK {s : Nat} (h : availK md ops ins o s = true) {V : Nat → Value → World → Prop} {a : Act} {w : World} (hins : ∀ s, ins.contains s = true → V s (a.eval (.tmp s)) w) (hdep : ∀ j d, depB md o j = true → dstB ops j d = true → V d (a.eval (.tmp d)) w) : V s (a.eval (.tmp s)) w := by
 unfold availK at h
 rw [Bool.or_eq_true, List.any_eq_true] at h
 rcases h with h | ⟨j, _, h⟩
 ·exact hins s h
 ·rw [Bool.and_eq_true] at h
  exact hdep j s h.1 h.2
theorem kMove (s : Nat) (ho : o.op = .move (.tmp s) ∨ o.op = .assign (.tmp s)) (hg : o.guard = none) (h : availK md ops ins o s = true) (hk : ∀ d, o.dst = some d → kd d = kd s) : StQ md ops Q nt ins kd w0 o :=
 StepK.plain hg fun a w K hsa hJ hins hdep hK => by
  have hv := getK h hins hdep
  have := hK (a.eval (.tmp s)) w (Keeps.refl w) (fun d hd => by show (kd d).holds _ w; rw [hk d hd]; exact hv)
  unfold Oper.wp execOp
  rcases ho with ho | ho
  ·rw [ho]; exact this
  ·rw [ho]; exact this
theorem kConst (v : Value) (ho : o.op = .move (.const v) ∨ o.op = .assign (.const v)) (hg : o.guard = none) (hk : ∀ d, o.dst = some d → kd d = .val v) : StQ md ops Q nt ins kd w0 o :=
 StepK.plain hg fun a w K hsa hJ hins hdep hK => by
  have := hK v w (Keeps.refl w) (fun d hd => by show (kd d).holds _ w; rw [hk d hd]; exact rfl)
  unfold Oper.wp execOp
  rcases ho with ho | ho
  ·rw [ho]; exact this
  ·rw [ho]; exact this
theorem kPure1 (s : Nat) (u v : Value) (hg : o.guard = none) (h : availK md ops ins o s = true) (hs : kd s = .val u) (hrun : ∀ (a : Act) w, a.eval (.tmp s) = u → (execOp a.eval o).run Tryz.prog w = .ok (.value v) w) (hk : ∀ d, o.dst = some d → kd d = .val v) : StQ md ops Q nt ins kd w0 o :=
 StepK.plain hg fun a w K hsa hJ hins hdep hK => by
  have hv := getK h hins hdep
  change (kd s).holds _ w at hv
  rw [hs] at hv
  unfold Oper.wp
  rw [hrun a w hv]
  exact hK _ _ (Keeps.refl w) (fun d hd => by show (kd d).holds _ w; rw [hk d hd]; exact rfl)
theorem kLoadS (s : Nat) (ad : Addr) (v : Value) (l : List ByteArray) (ho : o.op = .load 24 (.tmp s)) (hg : o.guard = none) (h : availK md ops ins o s = true) (hs : kd s = .val (.pointer (some ad))) (hc : w0.cell? ad = some v) (hl : StrsP w0 v l) (hk : ∀ d, o.dst = some d → kd d = .strs l) : StQ md ops Q nt ins kd w0 o :=
 StepK.plain hg fun a w K hsa hJ hins hdep hK => by
  have hv := getK h hins hdep
  change (kd s).holds _ w at hv
  rw [hs] at hv
  have hv : a.eval (.tmp s) = .pointer (some ad) := hv
  have hc' := hJ.cell hc
  obtain ⟨p, n, c, rfl⟩ := hl.sh
  have hrun : (Instr.loadAt 24 (.pointer (some ad))).run Tryz.prog w = .ok (.slice p n c) w := by simp [Instr.loadAt, go_sem, hc']
  unfold Oper.wp execOp
  simp only [ho, hv, Sem.run_bind, hrun, Result.andThen_ok, Sem.run_pure]
  exact hK _ _ (Keeps.refl w) (fun d hd => by show (kd d).holds _ w; rw [hk d hd]; exact hl.keeps hJ)
theorem kLoadT (s : Nat) (ad : Addr) (x : ByteArray) (ho : o.op = .load 9 (.tmp s)) (hg : o.guard = none) (h : availK md ops ins o s = true) (hs : kd s = .val (.pointer (some ad))) (hc : w0.cell? ad = some (.string x)) (hk : ∀ d, o.dst = some d → kd d = .val (.string x)) : StQ md ops Q nt ins kd w0 o :=
 StepK.plain hg fun a w K hsa hJ hins hdep hK => by
  have hv := getK h hins hdep
  change (kd s).holds _ w at hv
  rw [hs] at hv
  have hv : a.eval (.tmp s) = .pointer (some ad) := hv
  have hc' := hJ.cell hc
  have hrun : (Instr.loadAt 9 (.pointer (some ad))).run Tryz.prog w = .ok (.string x) w := by simp [Instr.loadAt, go_sem, hc']
  unfold Oper.wp execOp
  simp only [ho, hv, Sem.run_bind, hrun, Result.andThen_ok, Sem.run_pure]
  exact hK _ _ (Keeps.refl w) (fun d hd => by show (kd d).holds _ w; rw [hk d hd]; exact rfl)
end
end Go.Proofs.YtkkcfifnkcnceaaGreat
namespace Go.Proofs.YtkkcfifnkcnceaaGreat
open Go.RowKit
section
variable {md : Region.Mode} {ops : Array Oper} {Q : Exit → Act → World → Prop} {nt : Nat} {ins : List Nat} {kd : Nat → Kq} {w0 : World} {o : Oper}
theorem kCall (f : FuncId) (args : Array Operand) (ats : Array TypeId) (ho : o.op = .call { callee := .value (.func f), args := args, argTypes := ats }) (hE : Enters f) (hg : o.guard = none)
  (hc : ∀ (a : Act) w, Keeps w0 w → (∀ s, availK md ops ins o s = true → (kd s).holds (a.eval (.tmp s)) w) → Calls Tryz.prog f (args.map a.eval) w fun e w' => ∃ v, e = .returned v ∧ Keeps w w' ∧ ∀ d, o.dst = some d → (kd d).holds v w') : StQ md ops Q nt ins kd w0 o :=
 StepK.plain hg fun a w K hsa hJ hins hdep hK => by
  refine wp_callF f args ats ho hE _ rfl ((hc a w hJ (fun s h => getK h (V := fun s v w => (kd s).holds v w) hins hdep)).mono ?_)
  rintro e w' ⟨v, rfl, hk, hd⟩
  exact ⟨v, rfl, hK v w' hk hd⟩
theorem run_bQ (p q : Option Addr) (n c m d : Nat) (w : World) : (Instr.build 26 #[(0, .slice p n c), (1, .slice q m d)]).run Tryz.prog w = .ok (.agg #[.slice p n c, .slice q m d]) w := by
 kernel_rfl
theorem kBuild (s s' : Nat) (x y : List ByteArray) (ho : o.op = .build 26 #[(0, .tmp s), (1, .tmp s')]) (hg : o.guard = none) (h : availK md ops ins o s = true) (h' : availK md ops ins o s' = true) (hs : kd s = .strs x) (hs' : kd s' = .strs y) (hk : ∀ d, o.dst = some d → kd d = .sq x y) : StQ md ops Q nt ins kd w0 o :=
 StepK.plain hg fun a w K hsa hJ hins hdep hK => by
  have hv := getK h hins hdep
  have hv' := getK h' hins hdep
  change (kd s).holds _ w at hv
  change (kd s').holds _ w at hv'
  rw [hs] at hv
  rw [hs'] at hv'
  have hv : StrsP w (a.eval (.tmp s)) x := hv
  have hv' : StrsP w (a.eval (.tmp s')) y := hv'
  obtain ⟨p, n, c, e3⟩ := hv.sh
  obtain ⟨q, m, d, e4⟩ := hv'.sh
  rw [e3] at hv
  rw [e4] at hv'
  unfold Oper.wp execOp
  have e2 : (#[(0, Operand.tmp s), (1, Operand.tmp s')] : Array (Nat × Operand)).map (fun (i, x) => (i, a.eval x)) = #[(0, .slice p n c), (1, .slice q m d)] := by simp [e3, e4]
  simp only [ho]
  rw [e2]
  simp only [Sem.run_bind, run_bQ, Result.andThen_ok, Sem.run_pure]
  exact hK _ _ (Keeps.refl w) (fun d hd => by show (kd d).holds _ w; rw [hk d hd]; exact ⟨_, _, rfl, hv, hv'⟩)
theorem run_row1 (s : ByteArray) (w : World) : (Instr.buildSlice 24 1 #[(0, .string s)]).run Tryz.prog w = .ok (.slice (some ⟨w.heap.size, 0, none⟩) 1 1) (w.alloc (.cells #[.string s] 9)) := by kernel_rfl
theorem kOne (s : Nat) (x : ByteArray) (ho : o.op = .buildSlice 24 1 #[(0, .tmp s)]) (hg : o.guard = none) (h : availK md ops ins o s = true) (hs : kd s = .val (.string x)) (hk : ∀ d, o.dst = some d → kd d = .strs [x]) : StQ md ops Q nt ins kd w0 o :=
 StepK.plain hg fun a w K hsa hJ hins hdep hK => by
  have hv := getK h hins hdep
  change (kd s).holds _ w at hv
  rw [hs] at hv
  have hv : a.eval (.tmp s) = .string x := hv
  unfold Oper.wp execOp
  have e2 : (#[(0, Operand.tmp s)] : Array (Nat × Operand)).map (fun (i, x) => (i, a.eval x)) = #[(0, .string x)] := by simp [hv]
  simp only [ho]
  rw [e2]
  simp only [Sem.run_bind, run_row1, Result.andThen_ok, Sem.run_pure]
  exact hK _ _ ((Keeps.refl w).alloc _) (fun d hd => by show (kd d).holds _ _; rw [hk d hd]; exact Strs.lit1P w x)
theorem run_rowQ1 (p q : Option Addr) (n c m d : Nat) (w : World) : (Instr.buildSlice 29 1 #[(0, .agg #[.slice p n c, .slice q m d])]).run Tryz.prog w = .ok (.slice (some ⟨w.heap.size, 0, none⟩) 1 1) (w.alloc (.cells #[.slice p n c, .slice q m d] 26)) := by kernel_rfl
theorem run_rowQ2 (p q p' q' : Option Addr) (n c m d n' c' m' d' : Nat) (w : World) : (Instr.buildSlice 29 2 #[(0, .agg #[.slice p n c, .slice q m d]), (1, .agg #[.slice p' n' c', .slice q' m' d'])]).run Tryz.prog w = .ok (.slice (some ⟨w.heap.size, 0, none⟩) 2 2) (w.alloc (.cells #[.slice p n c, .slice q m d, .slice p' n' c', .slice q' m' d'] 26)) := by kernel_rfl
theorem kRow1 (s : Nat) (x y : List ByteArray) (ho : o.op = .buildSlice 29 1 #[(0, .tmp s)]) (hg : o.guard = none) (h : availK md ops ins o s = true) (hs : kd s = .sq x y) (hk : ∀ d, o.dst = some d → kd d = .sqs [(x, y)]) : StQ md ops Q nt ins kd w0 o :=
 StepK.plain hg fun a w K hsa hJ hins hdep hK => by
  have hv := getK h hins hdep
  change (kd s).holds _ w at hv
  rw [hs] at hv
  obtain ⟨u, v, e, hu, hv⟩ := hv
  obtain ⟨p, n, c, rfl⟩ := hu.sh
  obtain ⟨q, m, d, rfl⟩ := hv.sh
  unfold Oper.wp execOp
  have e2 : (#[(0, Operand.tmp s)] : Array (Nat × Operand)).map (fun (i, x) => (i, a.eval x)) = #[(0, .agg #[.slice p n c, .slice q m d])] := by simp [e]
  simp only [ho]
  rw [e2]
  simp only [Sem.run_bind, run_rowQ1, Result.andThen_ok, Sem.run_pure]
  exact hK _ _ ((Keeps.refl w).alloc _) (fun d' hd => by
   show (kd d').holds _ _
   rw [hk d' hd]
   exact SqL.lit w [(.slice p n c, .slice q m d)] [(x, y)] rfl (by simp) (fun i h1 h2 => by
    obtain rfl : i = 0 := by simp at h1; omega
    exact ⟨hu, hv⟩))
theorem kRow2 (s s' : Nat) (x y x' y' : List ByteArray) (ho : o.op = .buildSlice 29 2 #[(0, .tmp s), (1, .tmp s')]) (hg : o.guard = none) (h : availK md ops ins o s = true) (h' : availK md ops ins o s' = true) (hs : kd s = .sq x y) (hs' : kd s' = .sq x' y') (hk : ∀ d, o.dst = some d → kd d = .sqs [(x, y), (x', y')]) : StQ md ops Q nt ins kd w0 o :=
 StepK.plain hg fun a w K hsa hJ hins hdep hK => by
  have hv := getK h hins hdep
  have hv2 := getK h' hins hdep
  change (kd s).holds _ w at hv
  change (kd s').holds _ w at hv2
  rw [hs] at hv
  rw [hs'] at hv2
  obtain ⟨u, v, e, hu, hv⟩ := hv
  obtain ⟨u', v', e', hu', hv'⟩ := hv2
  obtain ⟨p, n, c, rfl⟩ := hu.sh
  obtain ⟨q, m, d, rfl⟩ := hv.sh
  obtain ⟨p', n', c', rfl⟩ := hu'.sh
  obtain ⟨q', m', d', rfl⟩ := hv'.sh
  unfold Oper.wp execOp
  have e2 : (#[(0, Operand.tmp s), (1, Operand.tmp s')] : Array (Nat × Operand)).map (fun (i, x) => (i, a.eval x)) = #[(0, .agg #[.slice p n c, .slice q m d]), (1, .agg #[.slice p' n' c', .slice q' m' d'])] := by simp [e, e']
  simp only [ho]
  rw [e2]
  simp only [Sem.run_bind, run_rowQ2, Result.andThen_ok, Sem.run_pure]
  exact hK _ _ ((Keeps.refl w).alloc _) (fun d1 hd => by
   show (kd d1).holds _ _
   rw [hk d1 hd]
   exact SqL.lit w [(.slice p n c, .slice q m d), (.slice p' n' c', .slice q' m' d')] [(x, y), (x', y')] rfl (by simp) (fun i h1 h2 => by
    simp at h1
    have hi : i = 0 ∨ i = 1 := by omega
    rcases hi with rfl | rfl
    ·exact ⟨hu, hv⟩
    ·exact ⟨hu', hv'⟩))
theorem run_rowD2 (p q : Option Addr) (n c m d : Nat) (w : World) : (Instr.buildSlice 134 2 #[(0, .slice p n c), (1, .slice q m d)]).run Tryz.prog w = .ok (.slice (some ⟨w.heap.size, 0, none⟩) 2 2) (w.alloc (.cells #[.slice p n c, .slice q m d] 24)) := by kernel_rfl
theorem run_rowD4 (p q p' q' : Option Addr) (n c m d n' c' m' d' : Nat) (w : World) : (Instr.buildSlice 134 4 #[(0, .slice p n c), (1, .slice q m d), (2, .slice p' n' c'), (3, .slice q' m' d')]).run Tryz.prog w = .ok (.slice (some ⟨w.heap.size, 0, none⟩) 4 4) (w.alloc (.cells #[.slice p n c, .slice q m d, .slice p' n' c', .slice q' m' d'] 24)) := by kernel_rfl
theorem kSides2 (s s' : Nat) (x y : List ByteArray) (ho : o.op = .buildSlice 134 2 #[(0, .tmp s), (1, .tmp s')]) (hg : o.guard = none) (h : availK md ops ins o s = true) (h' : availK md ops ins o s' = true) (hs : kd s = .strs x) (hs' : kd s' = .strs y) (hk : ∀ d, o.dst = some d → kd d = .sds [x, y]) : StQ md ops Q nt ins kd w0 o :=
 StepK.plain hg fun a w K hsa hJ hins hdep hK => by
  have hv := getK h hins hdep
  have hv' := getK h' hins hdep
  change (kd s).holds _ w at hv
  change (kd s').holds _ w at hv'
  rw [hs] at hv
  rw [hs'] at hv'
  have hv : StrsP w (a.eval (.tmp s)) x := hv
  have hv' : StrsP w (a.eval (.tmp s')) y := hv'
  obtain ⟨p, n, c, e3⟩ := hv.sh
  obtain ⟨q, m, d, e4⟩ := hv'.sh
  rw [e3] at hv
  rw [e4] at hv'
  unfold Oper.wp execOp
  have e2 : (#[(0, Operand.tmp s), (1, Operand.tmp s')] : Array (Nat × Operand)).map (fun (i, x) => (i, a.eval x)) = #[(0, .slice p n c), (1, .slice q m d)] := by simp [e3, e4]
  simp only [ho]
  rw [e2]
  simp only [Sem.run_bind, run_rowD2, Result.andThen_ok, Sem.run_pure]
  exact hK _ _ ((Keeps.refl w).alloc _) (fun d1 hd => by
   show (kd d1).holds _ _
   rw [hk d1 hd]
   exact SdL.lit w [.slice p n c, .slice q m d] [x, y] rfl (by simp) (fun i h1 h2 => by
    simp at h1
    have hi : i = 0 ∨ i = 1 := by omega
    rcases hi with rfl | rfl
    ·exact hv
    ·exact hv'))
theorem kSides4 (s1 s2 s3 s4 : Nat) (x1 x2 x3 x4 : List ByteArray) (ho : o.op = .buildSlice 134 4 #[(0, .tmp s1), (1, .tmp s2), (2, .tmp s3), (3, .tmp s4)]) (hg : o.guard = none) (h1 : availK md ops ins o s1 = true) (h2 : availK md ops ins o s2 = true) (h3 : availK md ops ins o s3 = true) (h4 : availK md ops ins o s4 = true)
  (e1 : kd s1 = .strs x1) (e2 : kd s2 = .strs x2) (e3 : kd s3 = .strs x3) (e4 : kd s4 = .strs x4) (hk : ∀ d, o.dst = some d → kd d = .sds [x1, x2, x3, x4]) : StQ md ops Q nt ins kd w0 o :=
 StepK.plain hg fun a w K hsa hJ hins hdep hK => by
  have v1 := getK h1 hins hdep
  have v2 := getK h2 hins hdep
  have v3 := getK h3 hins hdep
  have v4 := getK h4 hins hdep
  change (kd s1).holds _ w at v1
  change (kd s2).holds _ w at v2
  change (kd s3).holds _ w at v3
  change (kd s4).holds _ w at v4
  rw [e1] at v1
  rw [e2] at v2
  rw [e3] at v3
  rw [e4] at v4
  have v1 : StrsP w (a.eval (.tmp s1)) x1 := v1
  have v2 : StrsP w (a.eval (.tmp s2)) x2 := v2
  have v3 : StrsP w (a.eval (.tmp s3)) x3 := v3
  have v4 : StrsP w (a.eval (.tmp s4)) x4 := v4
  obtain ⟨p, n, c, f1⟩ := v1.sh
  obtain ⟨q, m, d, f2⟩ := v2.sh
  obtain ⟨p', n', c', f3⟩ := v3.sh
  obtain ⟨q', m', d', f4⟩ := v4.sh
  rw [f1] at v1
  rw [f2] at v2
  rw [f3] at v3
  rw [f4] at v4
  unfold Oper.wp execOp
  have e2 : (#[(0, Operand.tmp s1), (1, Operand.tmp s2), (2, Operand.tmp s3), (3, Operand.tmp s4)] : Array (Nat × Operand)).map (fun (i, x) => (i, a.eval x)) = #[(0, .slice p n c), (1, .slice q m d), (2, .slice p' n' c'), (3, .slice q' m' d')] := by simp [f1, f2, f3, f4]
  simp only [ho]
  rw [e2]
  simp only [Sem.run_bind, run_rowD4, Result.andThen_ok, Sem.run_pure]
  exact hK _ _ ((Keeps.refl w).alloc _) (fun d1 hd => by
   show (kd d1).holds _ _
   rw [hk d1 hd]
   exact SdL.lit w [.slice p n c, .slice q m d, .slice p' n' c', .slice q' m' d'] [x1, x2, x3, x4] rfl (by simp) (fun i h1 h2 => by
    simp at h1
    have hi : i = 0 ∨ i = 1 ∨ i = 2 ∨ i = 3 := by omega
    rcases hi with rfl | rfl | rfl | rfl
    ·exact v1
    ·exact v2
    ·exact v3
    ·exact v4))
theorem yields_of {j d0 : Nat} {b : Bool} {a : Act} (hj : (ops[j]?).bind (·.dst) = some d0) (hlt : d0 < a.tmps.size) (hv : a.eval (.tmp d0) = .bool b) : yielded ops a.tmps j = some b := by
 unfold yielded
 rw [hj]
 have : a.tmps[d0]? = some (.bool b) := by
  rw [Array.getElem?_eq_getElem hlt]
  simp only [Act.eval] at hv
  simpa [hlt] using hv
 simp [this]
theorem kOff (j d0 : Nat) (b : Bool) (hg : o.guard = some (j, !b)) (hj : (ops[j]?).bind (·.dst) = some d0) (hlt : d0 < nt) (h : availK md ops ins o d0 = true) (hs : kd d0 = .val (.bool b)) (hk : ∀ d, o.dst = some d → kd d = .any) : StQ md ops Q nt ins kd w0 o := fun a w K hsa hJ hins hdep hK => by
 have hv := getK h hins hdep
 change (kd d0).holds _ w at hv
 rw [hs] at hv
 have hv : a.eval (.tmp d0) = .bool b := hv
 have hw : Region.wanted o (yielded ops a.tmps) = false := by
  unfold Region.wanted
  rw [hg]
  simp only [yields_of hj (by omega) hv]
  cases b <;> rfl
 rw [hw, if_neg (by simp)]
 exact hK _ _ (Keeps.refl w) (fun d hd => by show (kd d).holds _ w; rw [hk d hd]; exact True.intro)
theorem kOn1 (j d0 : Nat) (b : Bool) (s : Nat) (u v : Value) (hg : o.guard = some (j, b)) (hj : (ops[j]?).bind (·.dst) = some d0) (hlt : d0 < nt) (h0 : availK md ops ins o d0 = true) (hs0 : kd d0 = .val (.bool b))
  (h : availK md ops ins o s = true) (hs : kd s = .val u) (hrun : ∀ (a : Act) w, a.eval (.tmp s) = u → (execOp a.eval o).run Tryz.prog w = .ok (.value v) w) (hk : ∀ d, o.dst = some d → kd d = .val v) : StQ md ops Q nt ins kd w0 o := fun a w K hsa hJ hins hdep hK => by
 have hv0 := getK h0 hins hdep
 change (kd d0).holds _ w at hv0
 rw [hs0] at hv0
 have hv0 : a.eval (.tmp d0) = .bool b := hv0
 have hv := getK h hins hdep
 change (kd s).holds _ w at hv
 rw [hs] at hv
 have hw : Region.wanted o (yielded ops a.tmps) = true := by
  unfold Region.wanted
  rw [hg]
  simp only [yields_of hj (by omega) hv0]
  cases b <;> rfl
 rw [hw, if_pos rfl]
 unfold Oper.wp
 rw [hrun a w hv]
 exact hK _ _ (Keeps.refl w) (fun d hd => by show (kd d).holds _ w; rw [hk d hd]; exact rfl)
theorem kPickT (s s' : Nat) (c : Operand) (v : Value) (ho : o.op = .pick (.tmp s) (.tmp s') c) (hg : o.guard = none) (h : availK md ops ins o s = true) (h' : availK md ops ins o s' = true) (hs : kd s = .val (.bool true)) (hs' : kd s' = .val v) (hk : ∀ d, o.dst = some d → kd d = .val v) : StQ md ops Q nt ins kd w0 o :=
 StepK.plain hg fun a w K hsa hJ hins hdep hK => by
  have hv := getK h hins hdep
  have hv' := getK h' hins hdep
  change (kd s).holds _ w at hv
  change (kd s').holds _ w at hv'
  rw [hs] at hv
  rw [hs'] at hv'
  have hv : a.eval (.tmp s) = .bool true := hv
  have hv' : a.eval (.tmp s') = v := hv'
  unfold Oper.wp execOp
  simp [ho, hv, hv', asBool]
  exact hK _ _ (Keeps.refl w) (fun d hd => by show (kd d).holds _ w; rw [hk d hd]; exact rfl)
theorem kPickF (s : Nat) (c : Operand) (v : Value) (ho : o.op = .pick (.tmp s) c (.const v)) (hg : o.guard = none) (h : availK md ops ins o s = true) (hs : kd s = .val (.bool false)) (hk : ∀ d, o.dst = some d → kd d = .val v) : StQ md ops Q nt ins kd w0 o :=
 StepK.plain hg fun a w K hsa hJ hins hdep hK => by
  have hv := getK h hins hdep
  change (kd s).holds _ w at hv
  rw [hs] at hv
  have hv : a.eval (.tmp s) = .bool false := hv
  unfold Oper.wp execOp
  simp [ho, hv, asBool]
  exact hK _ _ (Keeps.refl w) (fun d hd => by show (kd d).holds _ w; rw [hk d hd]; exact rfl)
end
end Go.Proofs.YtkkcfifnkcnceaaGreat
