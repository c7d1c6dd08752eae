/- Masks as natural numbers: bits, members, images of masks, on both sides. -/
import Derived.Test.YtkkcfifnkcnceaaGreatHQ1
import Derived.Laws.Bits64
import Derived.Test.YtkkcfifnkcnceaaGreatHMY
import Derived.Test.YtkkcfifnkcnceaaGreatHW5
namespace Go.Proofs.YtkkcfifnkcnceaaGreat
open Go.RowKit
theorem wrapN (n : Nat) (h : n < 4611686018427387904) : IntKind.i64.wrap (n : Int) = n := by
 simp [IntKind.wrap, IntKind.bits, IntKind.signed]
 try (split <;> omega)
theorem ofIntN (a : Nat) (ha : a < 4611686018427387904) : (BitVec.ofInt 64 (a : Int)).toNat = a := by
 rw [BitVec.ofInt_natCast, BitVec.toNat_ofNat]; exact Nat.mod_eq_of_lt (by omega)
theorem orN (a b : Nat) (ha : a < 4611686018427387904) (hb : b < 4611686018427387904) : bits .or .i64 (a : Int) (b : Int) = ((a ||| b : Nat) : Int) := by
 have hx : a ||| b < 2 ^ 62 := Nat.or_lt_two_pow (by omega) (by omega)
 show IntKind.i64.wrap ((BitVec.ofInt 64 (a : Int) ||| BitVec.ofInt 64 (b : Int)).toNat : Int) = _
 rw [BitVec.toNat_or, ofIntN a ha, ofIntN b hb]
 exact wrapN _ (by omega)
theorem andN (a b : Nat) (ha : a < 4611686018427387904) (hb : b < 4611686018427387904) : bits .and .i64 (a : Int) (b : Int) = ((a &&& b : Nat) : Int) := by
 have hx : a &&& b < 2 ^ 62 := Nat.and_lt_two_pow _ (by omega)
 show IntKind.i64.wrap ((BitVec.ofInt 64 (a : Int) &&& BitVec.ofInt 64 (b : Int)).toNat : Int) = _
 rw [BitVec.toNat_and, ofIntN a ha, ofIntN b hb]
 exact wrapN _ (by omega)
theorem bitN (m i : Nat) (hm : m < 4611686018427387904) : (bits BinOp.and IntKind.i64 ((m : Int) / 2 ^ i) 1 == 1) = m.testBit i := by
 have h1 : ((m : Int) / 2 ^ i) = ((m / 2 ^ i : Nat) : Int) := by push_cast; rfl
 have h2 : m / 2 ^ i < 4611686018427387904 := Nat.lt_of_le_of_lt (Nat.div_le_self _ _) hm
 rw [h1, show (1 : Int) = ((1 : Nat) : Int) from rfl, andN _ _ h2 (by omega), Nat.and_one_is_mod, Nat.testBit_eq_decide_div_mod_eq, Bool.eq_iff_iff, beq_iff_eq, decide_eq_true_eq]
 omega
theorem quietS {f : FuncId} {args : Array Value} {w : World} {n : Nat} {v : Value} (h : Calls Tryz.prog f args (w.drewN n) fun e w' => e = .returned v ∧ w.drewN n = w') :
  Calls Tryz.prog f args (w.drewN n) fun e w'' => e = .returned v ∧ ∃ m, w'' = w.drewN m := h.mono fun _ _ ⟨he, hm⟩ => ⟨he, n, hm.symm⟩
theorem two8 {n : Nat} (hn : n ≤ 8) : 2 ^ n ≤ 256 := Nat.pow_le_pow_right (by omega) hn
theorem hasB_any (m i : Nat) (w : World) (hm : m < 256) (hi : i ≤ 8) : Calls Tryz.prog 161 #[.int .i64 m, .int .i64 i] w fun e w' => e = .returned (.bool (m.testBit i)) ∧ w = w' := by
 go_enter Tryz.func161, Tryz.ntmps161
 go_wp2
 go_ret
 exact ⟨ret_bool (bitN m i (by omega)), rfl⟩
theorem l01BitB_any (m i : Nat) (w : World) (hm : m < 256) (hi : i ≤ 8) : Calls Tryz.prog 156 #[.int .i64 m, .int .i64 i] w fun e w' => e = .returned (.bool (m.testBit i)) ∧ w = w' := by
 go_enter Tryz.func156, Tryz.ntmps156
 go_wp2
 go_ret
 exact ⟨ret_bool (bitN m i (by omega)), rfl⟩
end Go.Proofs.YtkkcfifnkcnceaaGreat
namespace Go.Proofs.YtkkcfifnkcnceaaGreat
open Go.RowKit
theorem neqNd (k i k' i' : Int) (w : World) : (binOp .neq 131 (.agg #[.int .i64 k, .int .i64 i]) (.agg #[.int .i64 k', .int .i64 i'])).run Tryz.prog w = .ok (.bool (!(k == k' && i == i'))) w := by
 by_cases h1 : k = k' <;> by_cases h2 : i = i' <;> simp [go_sem, h1, h2]
set_option maxHeartbeats 800000 in
theorem equalN_any (a b : List Nd) (va vb : Value) (w : World) (hva : Nds w va a) (hvb : Nds w vb b) :
  Calls Tryz.prog 198 #[va, vb] w fun e w' => e = .returned (.bool (decide (a = b))) ∧ Keeps w w' := by
 have hva0 := hva
 have hvb0 := hvb
 obtain ⟨pa, ca, rfl, hlea, hmxa, _, hlena⟩ := hva
 obtain ⟨pb, cb, rfl, hleb, hmxb, _, hlenb⟩ := hvb
 unfold maxLen at hmxa hmxb
 by_cases hl : a.length = b.length
 ·have hl' : ((a.length : Int) != (b.length : Int)) = false := by simp [hl]
  have HL := hid hl; clear hl
  go_enter Tryz.func198, Tryz.ntmps198
  go_wp2
  go_loopw [4, 13] (fun r i' wr => ∃ k : Nat, k ≤ a.length ∧ a.take k = b.take k ∧ Keeps w wr ∧ i' = .int .i64 k ∧ r = .bool false) (fun _ i _ => a.length - (intOf i).toNat)
  case atStart => exact ⟨0, by omega, rfl, Keeps.refl w, rfl, rfl⟩
  case round =>
   obtain ⟨k, hk, htk, kw, rfl, rfl⟩ := hrel
   have HT := hid htk; clear htk
   clear hl'
   by_cases hlt : k < a.length
   ·have hltb : k < b.length := by have := HL.out; omega
    obtain ⟨_, _, e1, _, _, hata, _⟩ := hva0.keeps kw
    obtain ⟨_, _, e2, _, _, hatb, _⟩ := hvb0.keeps kw
    cases e1; cases e2
    obtain ⟨b1, o1, rfl, h1, h2⟩ := hata.nd k hlt
    obtain ⟨b2, o2, rfl, h3, h4⟩ := hatb.nd k hltb
    clear hata hatb hva0 hvb0
    have hlt' : (k : Int) < a.length := by omega
    have hltb' : (k : Int) < b.length := by omega
    by_cases he : a[k] = b[k]
    ·have HE := hid he
     rw [he] at h1 h2
     have hd := fun wz => neqNd b[k].k b[k].s b[k].k b[k].s wz
     simp only [beq_self_eq_true, Bool.and_self, Bool.not_true] at hd
     go_wp2_with fail
     go_quiet (fail)
     go_wp2
     go_roundw
     case rel => exact ⟨k + 1, by omega, by rw [List.take_succ_eq_append_getElem hlt, List.take_succ_eq_append_getElem hltb, HT.out, HE.out], kw.drewN _, by go_num, rfl⟩
     case measure => simp [intOf]; omega
    ·have HE := hid he
     have hd := fun wz => neqNd a[k].k a[k].s b[k].k b[k].s wz
     rw [show (a[k].k == b[k].k && a[k].s == b[k].s) = false by
      rw [Bool.eq_false_iff]
      intro h
      rw [Bool.and_eq_true, beq_iff_eq, beq_iff_eq] at h
      exact he (by cases hx : a[k]; cases hy : b[k]; rw [hx, hy] at h; simp at h; rw [h.1, h.2]), Bool.not_false] at hd
     clear he
     go_wp2_with fail
     go_quiet (fail)
     go_wp2
     go_ret
     refine ⟨ret_bool ?_, kw.drewN _⟩
     symm; rw [decide_eq_false_iff_not]
     rintro rfl; exact HE.out rfl
   ·have hlt' : ¬ (k : Int) < a.length := by omega
    go_wp2
    go_ret
    refine ⟨ret_bool ?_, kw⟩
    symm; rw [decide_eq_true_eq]
    have h1 := HL.out; have h2 := HT.out
    rw [List.take_of_length_le (by omega), List.take_of_length_le (by omega)] at h2
    exact h2
 ·have hl' : ((a.length : Int) != (b.length : Int)) = true := by simp; omega
  have HL := hid hl; clear hl
  go_enter Tryz.func198, Tryz.ntmps198
  go_wp2
  go_ret
  refine ⟨ret_bool ?_, Keeps.refl _⟩
  symm; rw [decide_eq_false_iff_not]
  rintro rfl; exact HL.out rfl
theorem same_any (a b : List Nd) (va vb : Value) (w : World) (hva : Nds w va a) (hvb : Nds w vb b) :
  Calls Tryz.prog 164 #[va, vb] w fun e w' => e = .returned (.bool (decide (a = b))) ∧ Keeps w w' := by
 have H := hid (equalN_any a b va vb w hva hvb)
 clear hva hvb
 go_enter Tryz.func164, Tryz.ntmps164
 go_wp2_with fail
 refine H.out.mono ?_; rintro e w2 ⟨rfl, k2⟩
 go_wp2_with fail
 go_ret
 exact ⟨rfl, k2⟩
theorem idx_el (E : List Fm) (t : Fm) (h : t ∈ E) : ∀ k, idxOf (fun x => decide (x = t.enc)) (E.map Fm.enc) k = ((k + E.idxOf t : Nat) : Int) ∧ E.idxOf t < E.length := by
 induction E with
 | nil => simp at h
 | cons a E ih =>
  intro k
  by_cases ha : a = t
  ·subst ha
   simp [idxOf]
  ·have hne : ¬ a.enc = t.enc := fun e => ha (enc_inj e)
   have hm : t ∈ E := by simpa [Ne.symm ha, eq_comm] using h
   obtain ⟨h1, h2⟩ := ih hm (k + 1)
   have hi : List.idxOf t (a :: E) = List.idxOf t E + 1 := by rw [List.idxOf_cons, show (a == t) = false by simp [ha]]; rfl
   rw [hi]
   refine ⟨?_, by simp; omega⟩
   simp only [List.map_cons, idxOf, hne, decide_false]
   simp only [Bool.false_eq_true, if_false]
   rw [h1]; congr 1; omega
set_option maxHeartbeats 400000 in
theorem indexFuncE (pr : List Nd → Bool) (f : FuncId) (cp : Array Value) (ss : List ByteArray) (xs : List (List Nd)) (v : Value) (w : World) (hv : ElL w v ss xs) (hcf : Enters f)
  (hf : ∀ (i : Nat) (h : i < xs.length) (s : ByteArray) (u : Value) (w1 : World), Keeps w w1 → Nds w1 u xs[i] → Calls Tryz.prog f (#[.agg #[.string s, u]] ++ cp) w1 fun e w2 => e = .returned (.bool (pr xs[i])) ∧ Keeps w1 w2) :
  Calls Tryz.prog 162 #[v, .func (.func f) #[] cp] w fun e w' => e = .returned (.int .i64 (idxOf pr xs 0)) ∧ Keeps w w' := by
 have hv0 := hv
 obtain ⟨p, cap, rfl, hle, hmx, hxl, hlen, _⟩ := hv
 unfold maxLen at hmx
 have HXL := hid hxl; clear hxl
 have HF := hid hf; clear hf
 have hcf' : ∀ args w, (callFunc f args).run Tryz.prog w = .ok (.enter f args) w := hcf
 clear hcf
 go_enter Tryz.func162, Tryz.ntmps162
 go_wp2
 go_loopw [4, 8] (fun r i' wr => ∃ k : Nat, k ≤ ss.length ∧ idxOf pr xs 0 = idxOf pr (xs.drop k) k ∧ Keeps w wr ∧ i' = .int .i64 k ∧ r = .int .i64 0) (fun _ i _ => ss.length - (intOf i).toNat)
 case atStart => exact ⟨0, by omega, by simp, Keeps.refl w, rfl, rfl⟩
 case round =>
  obtain ⟨k, hk, hs, kw, rfl, rfl⟩ := hrel
  have Hs := hid hs; clear hs
  by_cases hlt : k < ss.length
  ·have hltx : k < xs.length := by have := HXL.out; omega
   obtain ⟨_, _, e0, -, -, -, -, hget⟩ := hv0.keeps kw
   obtain ⟨b1, o1, u1, e1, h1, h2, hnd⟩ := hget k hlt hltx
   cases e0
   cases e1
   have hd := hid (idxOf_drop pr xs k hltx)
   obtain ⟨q1, n1, c1', rfl⟩ := hnd.shape
   clear hv0 hget
   have hlt' : (k : Int) < ss.length := by omega
   cases hp : pr xs[k]
   all_goals
    have Hp := hid hp; clear hp
    go_wp2_with ((with_reducible refine (HF.out k hltx ss[k] (.slice q1 n1 c1') wr kw hnd).mono ?_); rintro e w2 ⟨rfl, k2⟩; rw [Hp.out])
   ·go_roundw
    case rel => exact ⟨k + 1, by omega, by rw [Hs.out, hd.out, Hp.out]; rfl, kw.trans k2, by go_num, rfl⟩
    case measure => simp [intOf]; omega
   ·go_ret
    exact ⟨ret_int (by rw [Hs.out, hd.out, Hp.out]; rfl), kw.trans k2⟩
  ·have hlt' : ¬ (k : Int) < ss.length := by omega
   go_wp2
   go_ret
   exact ⟨ret_int (by rw [Hs.out, idxOf_end _ _ _ (by have := HXL.out; omega)]), kw⟩
theorem valueIn1_any (s : ByteArray) (x y : List Nd) (u vf : Value) (g : Nat) (w : World) (hc : w.cell? ⟨g, 0, none⟩ = some vf) (hf : Nds w vf y) (hu : Nds w u x) :
  Calls Tryz.prog 163 #[.agg #[.string s, u], .pointer (some ⟨g, 0, none⟩)] w fun e w' => e = .returned (.bool (decide (x = y))) ∧ Keeps w w' := by
 obtain ⟨p, c, rfl, -⟩ := id hf
 obtain ⟨q, c2, rfl, -⟩ := id hu
 have kA := (Keeps.refl w).alloc (.cells #[.string s, .slice q x.length c2] 145)
 have cA := kA.cell hc
 have H := hid (same_any x y _ _ _ (hu.keeps kA) (hf.keeps kA))
 clear hf hu hc
 go_enter Tryz.func163, Tryz.ntmps163
 go_wp2_with fail
 refine H.out.mono ?_; rintro e w2 ⟨rfl, k2⟩
 go_wp2_with fail
 go_ret
 exact ⟨rfl, kA.trans k2⟩
theorem enters_valueIn1 : Enters 163 := fun _ _ => by kernel_rfl
set_option maxRecDepth 20000 in
set_option maxHeartbeats 2000000 in
theorem valueIn_el (E : List Fm) (ss : List ByteArray) (h8 : E.length ≤ 8) (m : Nat) (hm : m < 256) (t : Fm) (hk : t.kind = 0 ∨ t.kind = 5 ∨ t.kind = 6) (ht : t ∈ E) (v : Value) (w : World) (r : Nat) (pv : Value)
  (hv : Nds w v t.enc) (hc1 : w.cell? ⟨r, 1, none⟩ = some pv) (hp : ElL w pv ss (E.map Fm.enc)) :
  Calls Tryz.prog 125 #[.pointer (some ⟨r, 0, none⟩), v, .int .i64 m] w fun e w' => e = .returned (.bool (m.testBit (E.idxOf t))) ∧ Keeps w w' := by
 have hv0 := hv
 obtain ⟨b, off, n, cap, rfl, h0, h1, h2, h3, hc, -⟩ := hv.root
 have kA := (Keeps.refl w).alloc (.cells #[.slice (some ⟨b, off, none⟩) n cap] 95)
 have c0 : (w.alloc (.cells #[.slice (some ⟨b, off, none⟩) n cap] 95)).cell? ⟨w.heap.size, 0, none⟩ = some (.slice (some ⟨b, off, none⟩) n cap) := by simp
 have hcA := kA.cell hc
 have hc1A := kA.cell hc1
 obtain ⟨hi1, hi2⟩ := idx_el E t ht 0
 rw [Nat.zero_add] at hi1
 have HI := hid (indexFuncE (fun x => decide (x = t.enc)) 163 #[.pointer (some ⟨w.heap.size, 0, none⟩)] ss (E.map Fm.enc) pv _ (hp.keeps kA) enters_valueIn1
  (fun i h s u w1 k1 hu => valueIn1_any s _ _ u _ _ w1 (k1.cell c0) ((hv0.keeps kA).keeps k1) hu))
 rw [hi1] at HI
 have HB := hid (fun wz => hasB_any m (E.idxOf t) wz hm (by omega))
 unfold maxLen at h2
 obtain ⟨pp, pc, rfl, -⟩ := hp
 clear hv hv0 hc1 hc
 generalize hJ : E.idxOf t = j
 rw [hJ] at HI HB
 clear hJ hi1 hi2
 rcases hk with hk | hk | hk
 all_goals
  rw [hk] at hcA
  go_enter Tryz.func125, Tryz.ntmps125
  go_wp2_with fail
  refine HI.out.mono ?_; rintro e w2 ⟨rfl, k2⟩
  go_wp2_with fail
  refine (HB.out _).mono ?_; rintro e w3 ⟨rfl, rfl⟩
  go_wp2_with fail
  go_ret
  exact ⟨rfl, kA.trans k2⟩
end Go.Proofs.YtkkcfifnkcnceaaGreat
namespace Go.Proofs.YtkkcfifnkcnceaaGreat
open Go.RowKit
structure Nee where
 ix : Nat
 bx : Bool
 inn : List Bool
def Nee.kd (n : Nee) : Int := if n.bx then 5 else 6
def Nee.dem (n : Nee) (m : Nat) : Bool := m.testBit n.ix == n.bx
def Nee.mee (n : Nee) (m : Nat) : Bool := n.inn.getD m false == n.bx
def NeeL (w : World) (v : Value) (ns : List Nee) : Prop :=
 ∃ p cap, v = .slice p ns.length cap ∧ ns.length ≤ cap ∧ cap ≤ maxLen ∧ ns.length ≤ 8 ∧
  ∀ i (h : i < ns.length), ∃ b off u, p = some ⟨b, off, none⟩ ∧ w.cell? ⟨b, off + i * 3, none⟩ = some (.int .i64 ns[i].ix) ∧ w.cell? ⟨b, off + i * 3 + 1, none⟩ = some (.int .i64 ns[i].kd) ∧ w.cell? ⟨b, off + i * 3 + 2, none⟩ = some u ∧ Bools w u ns[i].inn
theorem NeeL.keeps {w w' : World} {v : Value} {ns : List Nee} (h : NeeL w v ns) (k : Keeps w w') : NeeL w' v ns := by
 obtain ⟨p, cap, h1, h2, h3, h4, h5⟩ := h
 exact ⟨p, cap, h1, h2, h3, h4, fun i a => by obtain ⟨b, off, u, e1, e2, e3, e4, e5⟩ := h5 i a; exact ⟨b, off, u, e1, k.cell e2, k.cell e3, k.cell e4, e5.keeps k⟩⟩
theorem Bools.shape {w : World} {v : Value} {a : List Bool} (h : Bools w v a) : ∃ p c, v = .slice p a.length c ∧ a.length ≤ c ∧ c ≤ maxLen := by
 obtain ⟨p, c, e, h1, h2, _⟩ := h
 exact ⟨p, c, e, h1, h2⟩
theorem box3 (w : World) (a b c : Value) (ty : TypeId) : (w.alloc (.cells #[a, b, c] ty)).cell? ⟨w.heap.size, 0, none⟩ = some a ∧ (w.alloc (.cells #[a, b, c] ty)).cell? ⟨w.heap.size, 1, none⟩ = some b ∧ (w.alloc (.cells #[a, b, c] ty)).cell? ⟨w.heap.size, 2, none⟩ = some c := by
 refine ⟨?_, ?_, ?_⟩ <;> simp
set_option maxHeartbeats 1000000 in
theorem demands_any (n : Nee) (hi : n.ix ≤ 8) (m : Nat) (hm : m < 256) (q : Option Addr) (l c : Nat) (w : World) :
  Calls Tryz.prog 168 #[.agg #[.int .i64 n.ix, .int .i64 n.kd, .slice q l c], .int .i64 m] w fun e w' => e = .returned (.bool (n.dem m)) ∧ Keeps w w' := by
 obtain ⟨ix, bx, inn⟩ := n
 have kA := (Keeps.refl w).alloc (.cells #[.int .i64 ix, .int .i64 (Nee.kd ⟨ix, bx, inn⟩), .slice q l c] 150)
 obtain ⟨c0, c1, c2⟩ := box3 w (.int .i64 ix) (.int .i64 (Nee.kd ⟨ix, bx, inn⟩)) (.slice q l c) 150
 have HB := hid (fun wz => hasB_any m ix wz hm hi)
 have HD : Hid (Nee.dem ⟨ix, bx, inn⟩ m = (m.testBit ix == bx)) := hid rfl
 rw [HD.out]
 cases bx
 ·rw [show Nee.kd ⟨ix, false, inn⟩ = 6 from rfl] at *
  go_enter Tryz.func168, Tryz.ntmps168
  go_wp2_with fail
  go_quiet (first | (go_at_call 161; refine quietS (HB.out _)))
  go_wp2_with fail
  go_ret
  exact ⟨ret_bool (by cases m.testBit ix <;> rfl), kA.drewN _⟩
 ·rw [show Nee.kd ⟨ix, true, inn⟩ = 5 from rfl] at *
  go_enter Tryz.func168, Tryz.ntmps168
  go_wp2_with fail
  go_quiet (first | (go_at_call 161; refine quietS (HB.out _)))
  go_wp2_with fail
  go_ret
  exact ⟨ret_bool (by cases m.testBit ix <;> rfl), kA.drewN _⟩
set_option maxHeartbeats 1000000 in
theorem meets_any (n : Nee) (m : Nat) (hm : m < n.inn.length) (h256 : n.inn.length ≤ 256) (u : Value) (w : World) (hu : Bools w u n.inn) :
  Calls Tryz.prog 169 #[.agg #[.int .i64 n.ix, .int .i64 n.kd, u], .int .i64 m] w fun e w' => e = .returned (.bool (n.mee m)) ∧ Keeps w w' := by
 obtain ⟨ix, bx, inn⟩ := n
 simp only at hm h256 hu
 have hu0 := hu
 obtain ⟨q, c, rfl, hl, hx⟩ := hu.shape
 unfold maxLen at hx
 have kA := (Keeps.refl w).alloc (.cells #[.int .i64 ix, .int .i64 (Nee.kd ⟨ix, bx, inn⟩), .slice q inn.length c] 150)
 obtain ⟨c0, c1, c2⟩ := box3 w (.int .i64 ix) (.int .i64 (Nee.kd ⟨ix, bx, inn⟩)) (.slice q inn.length c) 150
 obtain ⟨_, _, e0, -, -, hat, -⟩ := hu0.keeps kA
 cases e0
 obtain ⟨b, off, rfl, h1⟩ := hat.bool m hm
 have hm' : (m : Int) < inn.length := by omega
 have HD : Hid (Nee.mee ⟨ix, bx, inn⟩ m = (inn[m] == bx)) := hid (by unfold Nee.mee; rw [List.getD_eq_getElem?_getD, List.getElem?_eq_getElem hm]; rfl)
 rw [HD.out]
 clear hu hu0 hat
 generalize inn[m] = y at *
 cases bx
 ·rw [show Nee.kd ⟨ix, false, inn⟩ = 6 from rfl] at *
  go_enter Tryz.func169, Tryz.ntmps169
  go_wp2_with fail
  go_quiet (fail)
  go_wp2_with fail
  go_ret
  exact ⟨ret_bool (by cases y <;> rfl), kA.drewN _⟩
 ·rw [show Nee.kd ⟨ix, true, inn⟩ = 5 from rfl] at *
  go_enter Tryz.func169, Tryz.ntmps169
  go_wp2_with fail
  go_quiet (fail)
  go_wp2_with fail
  go_ret
  exact ⟨ret_bool (by cases y <;> rfl), kA.drewN _⟩
set_option maxHeartbeats 400000 in
theorem indexFuncNe (pr : Nee → Bool) (f : FuncId) (cp : Array Value) (ns : List Nee) (v : Value) (w : World) (hv : NeeL w v ns) (hcf : Enters f)
  (hf : ∀ (n : Nee) (q : Option Addr) (c : Nat) (w1 : World), n ∈ ns → Keeps w w1 → Bools w1 (.slice q n.inn.length c) n.inn → Calls Tryz.prog f (#[.agg #[.int .i64 n.ix, .int .i64 n.kd, .slice q n.inn.length c]] ++ cp) w1 fun e w2 => e = .returned (.bool (pr n)) ∧ Keeps w1 w2) :
  Calls Tryz.prog 199 #[v, .func (.func f) #[] cp] w fun e w' => e = .returned (.int .i64 (idxOf pr ns 0)) ∧ Keeps w w' := by
 have hv0 := hv
 obtain ⟨p, cap, rfl, hle, hmx, hlen, -⟩ := hv
 unfold maxLen at hmx
 have HF := hid hf; clear hf
 have hcf' : ∀ args w, (callFunc f args).run Tryz.prog w = .ok (.enter f args) w := hcf
 clear hcf
 go_enter Tryz.func199, Tryz.ntmps199
 go_wp2
 go_loopw [4, 8] (fun r i' wr => ∃ k : Nat, k ≤ ns.length ∧ idxOf pr ns 0 = idxOf pr (ns.drop k) k ∧ Keeps w wr ∧ i' = .int .i64 k ∧ r = .int .i64 0) (fun _ i _ => ns.length - (intOf i).toNat)
 case atStart => exact ⟨0, by omega, by simp, Keeps.refl w, rfl, rfl⟩
 case round =>
  obtain ⟨k, hk, hs, kw, rfl, rfl⟩ := hrel
  have Hs := hid hs; clear hs
  by_cases hlt : k < ns.length
  ·obtain ⟨_, _, e0, -, -, -, hget⟩ := hv0.keeps kw
   obtain ⟨b1, o1, u1, e1, h1, h2, h3, hnd⟩ := hget k hlt
   cases e0
   cases e1
   have hd := hid (idxOf_drop pr ns k hlt)
   obtain ⟨q1, c1', rfl, -, -⟩ := hnd.shape
   clear hv0 hget
   have hlt' : (k : Int) < ns.length := by omega
   cases hp : pr ns[k]
   all_goals
    have Hp := hid hp; clear hp
    go_wp2_with ((with_reducible refine (HF.out ns[k] q1 c1' wr (List.getElem_mem hlt) kw hnd).mono ?_); rintro e w2 ⟨rfl, k2⟩; rw [Hp.out])
   ·go_roundw
    case rel => exact ⟨k + 1, by omega, by rw [Hs.out, hd.out, Hp.out]; rfl, kw.trans k2, by go_num, rfl⟩
    case measure => simp [intOf]; omega
   ·go_ret
    exact ⟨ret_int (by rw [Hs.out, hd.out, Hp.out]; rfl), kw.trans k2⟩
  ·have hlt' : ¬ (k : Int) < ns.length := by omega
   go_wp2
   go_ret
   exact ⟨ret_int (by rw [Hs.out, idxOf_end _ _ _ (by omega)]), kw⟩
theorem containsFuncNe (pr : Nee → Bool) (f : FuncId) (cp : Array Value) (ns : List Nee) (v : Value) (w : World) (hv : NeeL w v ns) (hcf : Enters f)
  (hf : ∀ (n : Nee) (q : Option Addr) (c : Nat) (w1 : World), n ∈ ns → Keeps w w1 → Bools w1 (.slice q n.inn.length c) n.inn → Calls Tryz.prog f (#[.agg #[.int .i64 n.ix, .int .i64 n.kd, .slice q n.inn.length c]] ++ cp) w1 fun e w2 => e = .returned (.bool (pr n)) ∧ Keeps w1 w2) :
  Calls Tryz.prog 166 #[v, .func (.func f) #[] cp] w fun e w' => e = .returned (.bool (ns.any pr)) ∧ Keeps w w' := by
 have H := hid (indexFuncNe pr f cp ns v w hv hcf hf)
 clear hv hf hcf
 have he := hid (idxOf_any pr ns 0)
 go_enter Tryz.func166, Tryz.ntmps166
 go_wp2_with (go_at_call 199; refine H.out.mono ?_; rintro e w2 ⟨rfl, k2⟩)
 go_ret
 exact ⟨ret_bool he.out, k2⟩
end Go.Proofs.YtkkcfifnkcnceaaGreat
