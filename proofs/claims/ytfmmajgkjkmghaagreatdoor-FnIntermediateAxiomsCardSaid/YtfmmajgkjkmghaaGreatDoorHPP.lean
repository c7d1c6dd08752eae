import Derived.Test.YtfmmajgkjkmghaaGreatDoorHBase
import Derived.Laws.Bits64
/- Walks of the small functions on numbers and of the reference's formula readers. -/
namespace Go.Proofs.YtfmmajgkjkmghaaGreatDoor
open Go.RowKit
def idxOf {α : Type} (pr : α → Bool) : List α → Nat → Int
 | [], _ => -1
 | x :: l, k => if pr x then k else idxOf pr l (k + 1)
theorem idxOf_any {α : Type} (pr : α → Bool) (l : List α) : ∀ k, decide (idxOf pr l k ≥ 0) = l.any pr := by
 induction l with
 | nil => intro k; simp [idxOf]
 | cons x l ih =>
  intro k
  cases h : pr x
  ·have := ih (k + 1); simp only [idxOf, List.any_cons, h]; simpa using this
  ·simp only [idxOf, h, List.any_cons]; simp
theorem idxOf_drop {α : Type} (pr : α → Bool) (l : List α) (k : Nat) (h : k < l.length) : idxOf pr (l.drop k) k = if pr l[k] then (k : Int) else idxOf pr (l.drop (k + 1)) (k + 1) := by
 rw [List.drop_eq_getElem_cons h]; rfl
theorem idxOf_end {α : Type} (pr : α → Bool) (l : List α) (k : Nat) (h : l.length ≤ k) : idxOf pr (l.drop k) k = -1 := by
 rw [List.drop_eq_nil_of_le h]; rfl
def Enters (f : FuncId) : Prop := ∀ args w, (callFunc f args).run Tryz.prog w = .ok (.enter f args) w
def inR (x l h : Int) : Bool := decide (l ≤ x ∧ x ≤ h)
set_option maxHeartbeats 400000 in
theorem l01In_any (x l h : Int) (w : World) : Calls Tryz.prog 117 #[.int .i64 x, .int .i64 l, .int .i64 h] w fun e w' => e = .returned (.bool (inR x l h)) ∧ w = w' := by
 by_cases h1 : l ≤ x
 ·by_cases h2 : x ≤ h
  all_goals
   go_enter Tryz.func117, Tryz.ntmps117
   go_wp2
   go_ret
   exact ⟨ret_bool (by simp [inR, *]), rfl⟩
 ·go_enter Tryz.func117, Tryz.ntmps117
  go_wp2
  go_ret
  exact ⟨ret_bool (by simp [inR]; omega), rfl⟩
set_option maxHeartbeats 400000 in
theorem inRange_any (x l h : Int) (w : World) : Calls Tryz.prog 42 #[.int .i64 x, .int .i64 l, .int .i64 h] w fun e w' => e = .returned (.bool (inR x l h)) ∧ w = w' := by
 by_cases h1 : l ≤ x
 ·by_cases h2 : x ≤ h
  all_goals
   go_enter Tryz.func42, Tryz.ntmps42
   go_wp2
   go_ret
   exact ⟨ret_bool (by simp [inR, *]), rfl⟩
 ·go_enter Tryz.func42, Tryz.ntmps42
  go_wp2
  go_ret
  exact ⟨ret_bool (by simp [inR]; omega), rfl⟩
set_option maxHeartbeats 400000 in
theorem partsOf_any (k : Int) (w : World) :
  Calls Tryz.prog 185 #[.int .i64 k] w fun e w' => e = .returned (.int .i64 (partsOf k)) ∧ w = w' := by
 go_enter Tryz.func185, Tryz.ntmps185
 go_wp2
 all_goals go_ret
 all_goals refine ⟨ret_int ?_, rfl⟩
 all_goals (simp_all [partsOf])
set_option maxHeartbeats 400000 in
theorem partEnd_any (a : List Nd) (v : Value) (i : Int) (w : World) (hv : Nds w v a) (h0 : 0 ≤ i) (hi : i ≤ a.length) :
  Calls Tryz.prog 164 #[v, .int .i64 i] w fun e w' => e = .returned (.int .i64 (skipInt 1 a i.toNat)) ∧ w = w' := by
 obtain ⟨i, rfl⟩ := Int.eq_ofNat_of_zero_le h0
 rw [Int.toNat_natCast]
 obtain ⟨p, cap, rfl, hle, hmx, hr, hlen⟩ := hv
 unfold maxLen at hmx
 go_enter Tryz.func164, Tryz.ntmps164
 go_wp2
 go_loop [1, 4, 5] (fun i' r o => ∃ k op : Nat, k ≤ a.length ∧ op ≤ 1 + k ∧ skipInt 1 a i = skipInt op a k ∧ i' = .int .i64 k ∧ o = .int .i64 op ∧ r = .int .i64 0) (fun i _ _ => a.length - (intOf i).toNat)
 case atStart => exact ⟨i, 1, by omega, by omega, rfl, rfl, rfl, rfl⟩
 case round =>
  obtain ⟨k, op, hk, hop, hs, rfl, rfl, rfl⟩ := hrel
  have Hs := hid hs; clear hs
  by_cases h0 : 0 < op
  ·by_cases hlt : k < a.length
   ·obtain ⟨b, off, rfl, h1, h2⟩ := hr.nd k hlt
    have hp := partsOf_le a[k].k
    clear hr h2
    go_wp2_with (go_at_call 185; refine (partsOf_any _ _).mono ?_; rintro e w' ⟨rfl, rfl⟩)
    go_round
    case rel => exact ⟨k + 1, op - 1 + partsOf a[k].k, by omega, by omega, by rw [Hs.out]; obtain ⟨q, rfl⟩ : ∃ q, op = q + 1 := ⟨op - 1, by omega⟩; exact skip_step q a k hlt, by go_num, by go_num, rfl⟩
    case measure => simp [intOf]; omega
   ·go_wp2
    go_ret
    refine ⟨ret_int ?_, rfl⟩
    obtain ⟨q, rfl⟩ : ∃ q, op = q + 1 := ⟨op - 1, by omega⟩
    rw [Hs.out, skip_end _ _ _ (by omega)]
  ·go_wp2
   go_ret
   refine ⟨ret_int ?_, rfl⟩
   obtain rfl : op = 0 := by omega
   rw [Hs.out, skip_zero _ _ hk]
end Go.Proofs.YtfmmajgkjkmghaaGreatDoor
namespace Go.Proofs.YtfmmajgkjkmghaaGreatDoor
open Go.RowKit
theorem wrap_pow : ∀ k : Nat, k ≤ 62 → wrap64 (2 ^ k) = 2 ^ k := by
 intro k hk
 have : ∀ j : Fin 63, wrap64 (2 ^ (j : Nat)) = 2 ^ (j : Nat) := by decide +kernel
 exact this ⟨k, by omega⟩
theorem l01One_any (i : Int) (w : World) (h0 : 0 ≤ i) (h1 : i ≤ 62) : Calls Tryz.prog 91 #[.int .i64 i] w fun e w' => e = .returned (.int .i64 (2 ^ i.toNat)) ∧ w = w' := by
 go_enter Tryz.func91, Tryz.ntmps91
 go_wp2
 go_ret
 refine ⟨ret_int ?_, rfl⟩
 exact wrap_pow _ (by omega)
theorem l01Full_any (i : Int) (w : World) (h0 : 0 ≤ i) (h1 : i ≤ 62) : Calls Tryz.prog 40 #[.int .i64 i] w fun e w' => e = .returned (.int .i64 (2 ^ i.toNat - 1)) ∧ w = w' := by
 have hp : (1 : Int) ≤ 2 ^ i.toNat := by
  have : ∀ j : Fin 63, (1 : Int) ≤ (2 : Int) ^ (j : Nat) := by decide +kernel
  exact this ⟨i.toNat, by omega⟩
 have hm : (2 : Int) ^ i.toNat ≤ 4611686018427387904 := by
  have : ∀ j : Fin 63, (2 : Int) ^ (j : Nat) ≤ 4611686018427387904 := by decide +kernel
  exact this ⟨i.toNat, by omega⟩
 generalize hP : (2 : Int) ^ i.toNat = P at *
 have HP := hid hP; clear hP
 go_enter Tryz.func40, Tryz.ntmps40
 go_wp2_with fail
 refine (l01One_any i _ h0 h1).mono ?_
 rintro e w' ⟨rfl, rfl⟩
 rw [HP.out]
 go_wp2_with fail
 go_ret
 exact ⟨rfl, rfl⟩
def RetI (w : World) (a : List Int) (e : Ending) (w' : World) : Prop := ∃ v, e = .returned v ∧ OwnI w' w.heap.size v a ∧ Keeps w w'
theorem l01Own_any (a : List Int) (v : Value) (w : World) (hv : Ints w v a) : Calls Tryz.prog 39 #[v] w (RetI w a) := by
 have hlen : a.length ≤ 2147483648 := by obtain ⟨_, _, _, _, _, _, h⟩ := hv; exact h
 have h1 := OwnI.empty w
 have k1 := (Keeps.refl w).alloc (.cells #[] 2)
 have hv1 := hv.keeps k1
 go_enter Tryz.func39, Tryz.ntmps39
 go_wp2_with (at_builtin; refine appI rfl _ _ rfl w.heap.size _ [] rfl h1 _ a rfl hv1 (by simp) (by simpa using hlen) ?_; intro v1 w1 hv1 hg1 hr1; have k2 : Keeps w w1 := k1.grown hg1 hr1)
 go_ret
 exact ⟨_, rfl, by simpa using hv1, k2⟩
theorem within_any (a b : Int) (w : World) : Calls Tryz.prog 108 #[.int .i64 a, .int .i64 b] w fun e w' => e = .returned (.bool (bits .andNot .i64 a b == 0)) ∧ w = w' := by
 go_enter Tryz.func108, Tryz.ntmps108
 go_wp2
 go_ret
 exact ⟨rfl, rfl⟩
set_option maxHeartbeats 400000 in
theorem posetOf_any (a : List Int) (v : Value) (w : World) (hv : Ints w v a) : Calls Tryz.prog 26 #[v] w fun e w' => e = .returned (.agg #[.int .i64 a.length, v]) ∧ Keeps w w' := by
 obtain ⟨p, cap, rfl, hle, hmx, hr, hlen⟩ := hv
 unfold maxLen at hmx
 go_enter Tryz.func26, Tryz.ntmps26
 go_wp2
 refine bodyPost_ret (v := .agg #[.int .i64 a.length, .slice p a.length cap]) (by simp [results, Tryz.results26, go_sem]) rfl ⟨rfl, (Keeps.refl w).alloc _⟩
def RetP (w : World) (a : List Int) (e : Ending) (w' : World) : Prop := ∃ v, e = .returned (.agg #[.int .i64 a.length, v]) ∧ OwnI w' w.heap.size v a ∧ Keeps w w'
set_option maxHeartbeats 400000 in
theorem l16Make_any (a : List Int) (v : Value) (w : World) (hv : Ints w v a) : Calls Tryz.prog 87 #[v] w (RetP w a) := by
 have hv0 := hv
 obtain ⟨p, cap, rfl, hle, hmx, hr, hlen⟩ := hv
 unfold maxLen at hmx
 have k1 := (Keeps.refl w).alloc (.cells #[.int .i64 0, .slice none 0 0] 26)
 go_enter Tryz.func87, Tryz.ntmps87
 go_wp2_with fail
 refine (l01Own_any a _ _ (hv0.keeps k1)).mono ?_
 rintro e w2 ⟨v2, rfl, hv2, k2⟩
 obtain ⟨p2, c2, rfl, _⟩ := hv2.ints hlen
 obtain ⟨hc2, hf2⟩ := k2.both
 go_wp2_with fail
 refine bodyPost_ret (v := .agg #[.int .i64 a.length, .slice p2 a.length c2]) (by simp [results, Tryz.results87, go_sem, hc2]) rfl ?_
 have hlt : w.heap.size < (w.alloc (.cells #[.int .i64 0, .slice none 0 0] 26)).heap.size := by simp
 exact ⟨_, rfl, ((hv2.setBelow hlt _).setBelow hlt _).mono (by simp), ((k1.trans k2).setCell (Nat.le_refl _) _).setCell (Nat.le_refl _) _⟩
end Go.Proofs.YtfmmajgkjkmghaaGreatDoor
namespace Go.Proofs.YtfmmajgkjkmghaaGreatDoor
open Go.RowKit
theorem wrapN (n : Nat) (h : n < 4611686018427387904) : IntKind.i64.wrap (n : Int) = n := by
 simp [IntKind.wrap, IntKind.bits, IntKind.signed]
 try (split <;> omega)
theorem ofIntN (a : Nat) (ha : a < 4611686018427387904) : (BitVec.ofInt 64 (a : Int)).toNat = a := by
 rw [BitVec.ofInt_natCast, BitVec.toNat_ofNat]; exact Nat.mod_eq_of_lt (by omega)
theorem orN (a b : Nat) (ha : a < 4611686018427387904) (hb : b < 4611686018427387904) : bits .or .i64 (a : Int) (b : Int) = ((a ||| b : Nat) : Int) := by
 have hx : a ||| b < 2 ^ 62 := Nat.or_lt_two_pow (by omega) (by omega)
 show IntKind.i64.wrap ((BitVec.ofInt 64 (a : Int) ||| BitVec.ofInt 64 (b : Int)).toNat : Int) = _
 rw [BitVec.toNat_or, ofIntN a ha, ofIntN b hb]
 exact wrapN _ (by omega)
theorem andN (a b : Nat) (ha : a < 4611686018427387904) (hb : b < 4611686018427387904) : bits .and .i64 (a : Int) (b : Int) = ((a &&& b : Nat) : Int) := by
 have hx : a &&& b < 2 ^ 62 := Nat.and_lt_two_pow _ (by omega)
 show IntKind.i64.wrap ((BitVec.ofInt 64 (a : Int) &&& BitVec.ofInt 64 (b : Int)).toNat : Int) = _
 rw [BitVec.toNat_and, ofIntN a ha, ofIntN b hb]
 exact wrapN _ (by omega)
theorem andNotN (a b : Nat) (ha : a < 4611686018427387904) (hb : b < 4611686018427387904) : bits .andNot .i64 (a : Int) (b : Int) = ((a ^^^ (a &&& b) : Nat) : Int) := by
 have h1 : a &&& b < 2 ^ 62 := Nat.and_lt_two_pow _ (by omega)
 have hx : a ^^^ (a &&& b) < 2 ^ 62 := Nat.xor_lt_two_pow (by omega) h1
 show IntKind.i64.wrap ((BitVec.ofInt 64 (a : Int) &&& ~~~BitVec.ofInt 64 (b : Int)).toNat : Int) = _
 have h2 : ∀ x y : BitVec 64, x &&& ~~~y = x ^^^ (x &&& y) := by
  intro x y
  apply BitVec.eq_of_getLsbD_eq
  intro i hi
  simp only [BitVec.getLsbD_and, BitVec.getLsbD_not, BitVec.getLsbD_xor, hi, decide_true, Bool.true_and]
  cases x.getLsbD i <;> cases y.getLsbD i <;> rfl
 rw [h2, BitVec.toNat_xor, BitVec.toNat_and, ofIntN a ha, ofIntN b hb]
 exact wrapN _ (by omega)
theorem bitN (m i : Nat) (hm : m < 4611686018427387904) : (bits BinOp.and IntKind.i64 ((m : Int) / 2 ^ i) 1 == 1) = m.testBit i := by
 have h1 : ((m : Int) / 2 ^ i) = ((m / 2 ^ i : Nat) : Int) := by push_cast; rfl
 have h2 : m / 2 ^ i < 4611686018427387904 := Nat.lt_of_le_of_lt (Nat.div_le_self _ _) hm
 rw [h1, show (1 : Int) = ((1 : Nat) : Int) from rfl, andN _ _ h2 (by omega), Nat.and_one_is_mod, Nat.testBit_eq_decide_div_mod_eq, Bool.eq_iff_iff, beq_iff_eq, decide_eq_true_eq]
 omega
theorem quietS {f : FuncId} {args : Array Value} {w : World} {n : Nat} {v : Value} (h : Calls Tryz.prog f args (w.drewN n) fun e w' => e = .returned v ∧ w.drewN n = w') :
  Calls Tryz.prog f args (w.drewN n) fun e w'' => e = .returned v ∧ ∃ m, w'' = w.drewN m := h.mono fun _ _ ⟨he, hm⟩ => ⟨he, n, hm.symm⟩
def inB (a b : Nat) : Bool := a ^^^ (a &&& b) == 0
theorem inB_iff (a b : Nat) : inB a b = true ↔ ∀ i, a.testBit i = true → b.testBit i = true := by
 unfold inB
 rw [beq_iff_eq]
 constructor
 ·intro h i hi
  have := congrArg (fun n => n.testBit i) h
  simp only [Nat.testBit_xor, Nat.testBit_and, Nat.zero_testBit, hi] at this
  simpa using this
 ·intro h
  apply Nat.eq_of_testBit_eq
  intro i
  simp only [Nat.testBit_xor, Nat.testBit_and, Nat.zero_testBit]
  cases hi : a.testBit i
  ·simp
  ·simp [h i hi]
theorem withinN (a b : Nat) (ha : a < 4611686018427387904) (hb : b < 4611686018427387904) : (bits .andNot .i64 (a : Int) (b : Int) == 0) = inB a b := by
 rw [andNotN a b ha hb]
 unfold inB
 rw [Bool.eq_iff_iff, beq_iff_eq, beq_iff_eq]
 omega
def lowB (m i : Nat) : List Nat := (List.range i).filter (fun j => m.testBit j)
def zs (l : List Nat) : List Int := l.map Int.ofNat
theorem zs_length (l : List Nat) : (zs l).length = l.length := by simp [zs]
theorem zs_get (l : List Nat) (i : Nat) (h : i < (zs l).length) : (zs l)[i] = ((l[i]'(by simpa [zs] using h) : Nat) : Int) := by simp [zs]
theorem zs_snoc (l : List Nat) (x : Nat) : zs (l ++ [x]) = zs l ++ [(x : Int)] := by simp [zs]
theorem lowB_succ (m i : Nat) : lowB m (i + 1) = if m.testBit i then lowB m i ++ [i] else lowB m i := by
 unfold lowB
 rw [List.range_succ, List.filter_append]
 by_cases h : m.testBit i <;> simp [h]
theorem lowB_len (m : Nat) (i : Nat) : (lowB m i).length ≤ i := by
 unfold lowB
 exact Nat.le_trans (List.length_filter_le _ _) (by simp)
theorem lowB_more (m i : Nat) (h : m < 2 ^ i) : ∀ d, lowB m (i + d) = lowB m i
 | 0 => rfl
 | d + 1 => by
  rw [← Nat.add_assoc, lowB_succ, lowB_more m i h d]
  have : m.testBit (i + d) = false := Nat.testBit_lt_two_pow (Nat.lt_of_lt_of_le h (Nat.pow_le_pow_right (by omega) (by omega)))
  simp [this]
def memB (m : Nat) : List Nat := lowB m 8
theorem lowB_end (m i : Nat) (_hm : m < 256) (hi : i ≤ 8) (h : m / 2 ^ i = 0) : lowB m i = memB m := by
 have h1 : m < 2 ^ i := by
  have hp : 0 < 2 ^ i := Nat.two_pow_pos i
  rcases Nat.lt_or_ge m (2 ^ i) with h' | h'
  ·exact h'
  ·have := Nat.div_pos h' hp; omega
 have := lowB_more m i h1 (8 - i)
 rw [show i + (8 - i) = 8 by omega] at this
 exact this.symm
theorem memB_mem {m x : Nat} (h : x ∈ memB m) : x < 8 ∧ m.testBit x = true := by
 simpa [memB, lowB] using h
theorem memB_lt {m n x : Nat} (hm : m < 2 ^ n) (h : x ∈ memB m) : x < n := by
 have h1 := (memB_mem h).2
 rcases Nat.lt_or_ge x n with h2 | h2
 ·exact h2
 ·rw [Nat.testBit_lt_two_pow (Nat.lt_of_lt_of_le hm (Nat.pow_le_pow_right (by omega) h2))] at h1; cases h1
theorem getD_get {b : List Nat} {i : Nat} (h : i < b.length) : b.getD i 0 = b[i] := by simp [List.getD_eq_getElem?_getD, h]
theorem Ints.zs_cell {w : World} {p : Option Addr} {n cap : Nat} {l : List Nat} (h : Ints w (.slice p n cap) (zs l)) (i : Nat) (hi : i < l.length) :
  ∃ b o, p = some ⟨b, o, none⟩ ∧ w.cell? ⟨b, o + i, none⟩ = some (.int .i64 ((l.getD i 0 : Nat) : Int)) := by
 obtain ⟨_, _, e, _, _, hat, _⟩ := h
 cases e
 obtain ⟨b, o, e, h1⟩ := hat.int i (by rw [zs_length]; exact hi)
 rw [zs_get, ← getD_get] at h1
 exact ⟨b, o, e, h1⟩
theorem two8 {n : Nat} (hn : n ≤ 8) : 2 ^ n ≤ 256 := Nat.pow_le_pow_right (by omega) hn
theorem hasB_any (m i : Nat) (w : World) (hm : m < 256) (hi : i ≤ 8) : Calls Tryz.prog 106 #[.int .i64 m, .int .i64 i] w fun e w' => e = .returned (.bool (m.testBit i)) ∧ w = w' := by
 go_enter Tryz.func106, Tryz.ntmps106
 go_wp2
 go_ret
 exact ⟨ret_bool (bitN m i (by omega)), rfl⟩
theorem l01BitB_any (m i : Nat) (w : World) (hm : m < 256) (hi : i ≤ 8) : Calls Tryz.prog 150 #[.int .i64 m, .int .i64 i] w fun e w' => e = .returned (.bool (m.testBit i)) ∧ w = w' := by
 go_enter Tryz.func150, Tryz.ntmps150
 go_wp2
 go_ret
 exact ⟨ret_bool (bitN m i (by omega)), rfl⟩
theorem withinB_any (a b : Nat) (w : World) (ha : a < 256) (hb : b < 256) : Calls Tryz.prog 108 #[.int .i64 a, .int .i64 b] w fun e w' => e = .returned (.bool (inB a b)) ∧ w = w' :=
 (within_any a b w).mono (by rintro e w' ⟨rfl, rfl⟩; exact ⟨ret_bool (withinN a b (by omega) (by omega)), rfl⟩)
set_option maxHeartbeats 1000000 in
theorem membersB_any (m : Nat) (w : World) (hm : m < 256) : Calls Tryz.prog 130 #[.int .i64 m] w (RetI w (zs (memB m))) := by
 go_enter Tryz.func130, Tryz.ntmps130
 go_wp2
 go_loopw [3, 4] (fun o i' wr => ∃ i : Nat, i ≤ 8 ∧ i' = .int .i64 i ∧ OwnI wr w.heap.size o (zs (lowB m i)) ∧ Keeps w wr) (fun _ i _ => 9 - (intOf i).toNat)
 case atStart => exact ⟨0, by omega, rfl, by simpa [lowB, zs] using OwnI.nil w w.heap.size, Keeps.refl w⟩
 case round =>
  obtain ⟨i, hi, rfl, hown, kw⟩ := hrel
  have hcast : (m : Int) / 2 ^ i = ((m / 2 ^ i : Nat) : Int) := by push_cast; rfl
  by_cases hp : 0 < m / 2 ^ i
  ·have hi8 : i < 8 := by
    rcases Nat.lt_or_ge i 8 with h | h
    ·exact h
    ·obtain rfl : i = 8 := by omega
     omega
   have hd : decide ((m : Int) / 2 ^ i > 0) = true := by rw [hcast]; simp only [decide_eq_true_eq]; omega
   have hd' : (0 : Int) < (m : Int) / 2 ^ i := by rw [hcast]; omega
   have hls := lowB_succ m i
   have hll := lowB_len m i
   have hzl := zs_length (lowB m i)
   have HH := hid (hasB_any m i wr hm (by omega))
   have HLS := hid hls; clear hls
   clear hcast hp
   cases hb : m.testBit i
   ·rw [hb] at HH HLS
    clear hb
    go_wp2_with fail
    refine HH.out.mono ?_; rintro e w' ⟨rfl, rfl⟩
    go_wp2_with fail
    go_roundw
    case rel => exact ⟨i + 1, by omega, by go_num, by have h := HLS.out; simp only [Bool.false_eq_true, if_false] at h; rw [h]; exact hown, kw⟩
    case measure => simp [intOf]; omega
   ·rw [hb] at HH HLS
    clear hb
    go_wp2_with fail
    refine HH.out.mono ?_; rintro e w' ⟨rfl, rfl⟩
    go_wp2_with (at_builtin; refine appI rfl _ _ rfl w.heap.size _ (zs (lowB m i)) rfl (hown.keeps ((Keeps.refl wr).alloc _)) _ [(i : Int)] rfl (Ints.lit1 wr i) (by have := kw.size; simp; omega) (by simp; omega) ?_; intro v1 w1 hv1 hg1 hr1; have k2 := (kw.alloc (.cells #[.int .i64 i] 2)).grown hg1 (by simpa using hr1))
    go_roundw
    case rel => exact ⟨i + 1, by omega, by go_num, by have h := HLS.out; simp only [if_true] at h; rw [h, zs_snoc]; exact hv1, k2⟩
    case measure => simp [intOf]; omega
  ·have hz : m / 2 ^ i = 0 := Nat.eq_zero_of_not_pos hp
   have hd : decide ((m : Int) / 2 ^ i > 0) = false := by rw [hcast, hz]; rfl
   have hd' : ¬ (0 : Int) < (m : Int) / 2 ^ i := by rw [hcast, hz]; simp
   have hle := lowB_end m i hm hi hz
   rw [hle] at hown
   clear hle hz hp hcast
   go_wp2
   go_ret
   exact ⟨_, rfl, hown, kw⟩
def imgL (b : List Nat) (m : Nat) : Nat → Nat
 | 0 => 0
 | k + 1 => if m.testBit k then imgL b m k ||| b.getD k 0 else imgL b m k
def foldB (b : List Nat) (l : List Nat) : Nat := l.foldl (fun acc i => acc ||| b.getD i 0) 0
theorem foldB_snoc (b l : List Nat) (x : Nat) : foldB b (l ++ [x]) = foldB b l ||| b.getD x 0 := by simp [foldB, List.foldl_append]
theorem foldB_low (b : List Nat) (m : Nat) : ∀ k, foldB b (lowB m k) = imgL b m k
 | 0 => rfl
 | k + 1 => by
  rw [lowB_succ, imgL]
  split
  ·rw [foldB_snoc, foldB_low b m k]
  ·exact foldB_low b m k
theorem imgL_more (b : List Nat) (m i : Nat) (h : m < 2 ^ i) (d : Nat) : imgL b m (i + d) = imgL b m i := by
 rw [← foldB_low, ← foldB_low, lowB_more m i h d]
def img (b : List Nat) (m : Nat) : Nat := imgL b m b.length
theorem foldB_mem (b : List Nat) (m : Nat) (hb : b.length ≤ 8) (hm : m < 2 ^ b.length) : foldB b (memB m) = img b m := by
 unfold memB img
 rw [foldB_low, show 8 = b.length + (8 - b.length) by omega, imgL_more b m _ hm]
theorem getD_lt {b : List Nat} {n : Nat} (h : ∀ x ∈ b, x < 2 ^ n) (i : Nat) : b.getD i 0 < 2 ^ n := by
 rw [List.getD_eq_getElem?_getD]
 by_cases hi : i < b.length
 ·simp only [List.getElem?_eq_getElem hi, Option.getD_some]; exact h _ (List.getElem_mem hi)
 ·simp only [List.getElem?_eq_none (Nat.le_of_not_lt hi), Option.getD_none]; exact Nat.two_pow_pos n
theorem foldB_lt {b : List Nat} {n : Nat} (h : ∀ x ∈ b, x < 2 ^ n) (l : List Nat) : foldB b l < 2 ^ n := by
 have : ∀ (l : List Nat) (acc : Nat), acc < 2 ^ n → l.foldl (fun acc i => acc ||| b.getD i 0) acc < 2 ^ n := by
  intro l
  induction l with
  | nil => intro acc h; exact h
  | cons x l ih => intro acc hacc; exact ih _ (Nat.or_lt_two_pow hacc (getD_lt h x))
 exact this l 0 (Nat.two_pow_pos n)
theorem imgL_lt {b : List Nat} {n : Nat} (h : ∀ x ∈ b, x < 2 ^ n) (m k : Nat) : imgL b m k < 2 ^ n := by rw [← foldB_low]; exact foldB_lt h _
theorem img_lt {b : List Nat} {n : Nat} (h : ∀ x ∈ b, x < 2 ^ n) (m : Nat) : img b m < 2 ^ n := imgL_lt h m _
set_option maxHeartbeats 1000000 in
theorem image_any (b : List Nat) (m : Nat) (v : Value) (w : World) (hv : Ints w v (zs b)) (hb : b.length ≤ 8) (hbm : ∀ x ∈ b, x < 2 ^ b.length) (hm : m < 2 ^ b.length) :
  Calls Tryz.prog 133 #[v, .int .i64 m] w fun e w' => e = .returned (.int .i64 (img b m)) ∧ Keeps w w' := by
 have hv0 := hv
 obtain ⟨p, cap, rfl, hle, hmx, _, _⟩ := hv
 unfold maxLen at hmx
 rw [zs_length] at *
 have h256 := two8 hb
 have HF := hid (foldB_mem b m hb hm)
 have HM := hid (fun w2 => membersB_any m w2 (Nat.lt_of_lt_of_le hm h256))
 have HB := hid (fun x (h : x ∈ memB m) => memB_lt hm h)
 have hml : (memB m).length ≤ 8 := lowB_len m 8
 have HL := hid (foldB_lt (b := b) hbm)
 have HG := hid (getD_lt (b := b) hbm)
 clear hm hbm
 go_enter Tryz.func133, Tryz.ntmps133
 go_wp2_with fail
 refine (HM.out _).mono ?_; rintro e w2 ⟨v2, rfl, hv2, k2⟩
 have hv2i := hv2.ints (by rw [zs_length]; omega)
 obtain ⟨p2, c2, rfl, hl2, hm2, _, _⟩ := hv2.ints (by rw [zs_length]; omega)
 unfold maxLen at hm2
 rw [zs_length] at *
 generalize memB m = l at *
 have hv1 := hv0.keeps k2
 clear HM hv0
 go_wp2
 go_loop [5, 11] (fun o i' => ∃ i : Nat, i ≤ l.length ∧ i' = .int .i64 i ∧ o = .int .i64 (foldB b (l.take i))) (fun _ i => l.length - (intOf i).toNat)
 case atStart => exact ⟨0, by omega, rfl, rfl⟩
 case round =>
  obtain ⟨i, hi, rfl, rfl⟩ := hrel
  by_cases hlt : i < l.length
  ·obtain ⟨b1, o1, rfl, h1⟩ := hv2i.zs_cell i hlt
   rw [getD_get hlt] at h1
   have hx := HB.out l[i] (List.getElem_mem hlt)
   obtain ⟨b2, o2, rfl, h2⟩ := hv1.zs_cell l[i] hx
   rw [getD_get hx] at h2
   have hst : foldB b (l.take (i + 1)) = foldB b (l.take i) ||| b[l[i]] := by
    rw [List.take_succ_eq_append_getElem hlt, foldB_snoc, getD_get hx]
   have hor := orN (foldB b (l.take i)) b[l[i]] (Nat.lt_of_lt_of_le (HL.out _) (by omega)) (by rw [← getD_get hx]; exact Nat.lt_of_lt_of_le (HG.out _) (by omega))
   rw [← hst] at hor
   have hlt' : (i : Int) < l.length := by omega
   have hx' : ((l[i] : Nat) : Int) < b.length := by omega
   have HO := hid hor; clear hor
   clear hst
   generalize l[i] = x at *
   generalize b[x] = y at *
   generalize foldB b (l.take i) = z at *
   go_wp2
   go_round
   case rel => exact ⟨i + 1, by omega, by go_num, by rw [HO.out]⟩
   case measure => simp [intOf]; omega
  ·have hlt' : ¬ (i : Int) < l.length := by omega
   rw [List.take_of_length_le (by omega)]
   rw [HF.out]
   go_wp2
   go_ret
   exact ⟨rfl, k2⟩
set_option maxHeartbeats 1000000 in
theorem l01Image_any (b : List Nat) (m : Nat) (v : Value) (w : World) (hv : Ints w v (zs b)) (hb : b.length ≤ 8) (hbm : ∀ x ∈ b, x < 2 ^ b.length) (hm : m < 2 ^ b.length) :
  Calls Tryz.prog 153 #[v, .int .i64 m] w fun e w' => e = .returned (.int .i64 (img b m)) ∧ w = w' := by
 obtain ⟨p, cap, rfl, hle, hmx, hat, _⟩ := hv
 unfold maxLen at hmx
 rw [zs_length] at *
 have h256 := two8 hb
 have hm256 := Nat.lt_of_lt_of_le hm h256
 have HB := hid (fun i w2 (hi : i ≤ 8) => l01BitB_any m i w2 hm256 hi)
 have HL := hid (fun k => imgL_lt (b := b) hbm m k)
 have HG := hid (getD_lt (b := b) hbm)
 clear hm hbm
 go_enter Tryz.func153, Tryz.ntmps153
 go_wp2
 go_loop [5, 6] (fun o i' => ∃ i : Nat, i ≤ b.length ∧ i' = .int .i64 i ∧ o = .int .i64 (imgL b m i)) (fun _ i => b.length - (intOf i).toNat)
 case atStart => exact ⟨0, by omega, rfl, rfl⟩
 case round =>
  obtain ⟨i, hi, rfl, rfl⟩ := hrel
  by_cases hlt : i < b.length
  ·obtain ⟨b2, o2, rfl, h2⟩ := hat.int i (by rw [zs_length]; exact hlt)
   rw [zs_get] at h2
   have hst : imgL b m (i + 1) = if m.testBit i then imgL b m i ||| b.getD i 0 else imgL b m i := rfl
   rw [getD_get hlt] at hst
   have hor := orN (imgL b m i) b[i] (Nat.lt_of_lt_of_le (HL.out _) (by omega)) (by rw [← getD_get hlt]; exact Nat.lt_of_lt_of_le (HG.out _) (by omega))
   have hlt' : (i : Int) < b.length := by omega
   have HH := hid (HB.out i w (by omega))
   have HO := hid hor; clear hor
   have HS := hid hst; clear hst
   clear hat
   generalize b[i] = y at *
   cases hbit : m.testBit i
   ·rw [hbit] at HH HS
    clear hbit
    go_wp2_with fail
    refine HH.out.mono ?_; rintro e w' ⟨rfl, rfl⟩
    go_wp2_with fail
    go_round
    case rel => exact ⟨i + 1, by omega, by go_num, by have h := HS.out; simp only [Bool.false_eq_true, if_false] at h; rw [h]⟩
    case measure => simp [intOf]; omega
   ·rw [hbit] at HH HS
    clear hbit
    go_wp2_with fail
    refine HH.out.mono ?_; rintro e w' ⟨rfl, rfl⟩
    go_wp2_with fail
    go_round
    case rel => exact ⟨i + 1, by omega, by go_num, by have h := HS.out; simp only [if_true] at h; rw [h, HO.out]⟩
    case measure => simp [intOf]; omega
  ·have hlt' : ¬ (i : Int) < b.length := by omega
   obtain rfl : i = b.length := by omega
   go_wp2
   go_ret
   exact ⟨rfl, rfl⟩
end Go.Proofs.YtfmmajgkjkmghaaGreatDoor
namespace Go.Proofs.YtfmmajgkjkmghaaGreatDoor
def inM (a b : Nat) : Prop := ∀ i, a.testBit i = true → b.testBit i = true
theorem inM.refl (a : Nat) : inM a a := fun _ h => h
theorem inM.trans {a b c : Nat} (h : inM a b) (k : inM b c) : inM a c := fun i hi => k i (h i hi)
theorem inM.eq {a b : Nat} (h : inM a b) (k : inM b a) : a = b := Nat.eq_of_testBit_eq fun i => by
 rw [Bool.eq_iff_iff]
 exact ⟨h i, k i⟩
theorem inM_or {a b c : Nat} : inM (a ||| b) c ↔ inM a c ∧ inM b c := by
 constructor
 ·intro h
  exact ⟨fun i hi => h i (by simp [hi]), fun i hi => h i (by simp [hi])⟩
 ·rintro ⟨h, k⟩ i hi
  rw [Nat.testBit_or, Bool.or_eq_true] at hi
  exact hi.elim (h i) (k i)
theorem inM_left (a b : Nat) : inM a (a ||| b) := fun i hi => by simp [hi]
theorem inM_right (a b : Nat) : inM b (a ||| b) := fun i hi => by simp [hi]
theorem or_inM {a b : Nat} (h : inM b a) : a ||| b = a := inM.eq (inM_or.2 ⟨inM.refl a, h⟩) (inM_left a b)
def leR (a b : List Nat) : Prop := a.length = b.length ∧ ∀ i, inM (a.getD i 0) (b.getD i 0)
theorem leR.refl (a : List Nat) : leR a a := ⟨rfl, fun _ => inM.refl _⟩
theorem leR.trans {a b c : List Nat} (h : leR a b) (k : leR b c) : leR a c := ⟨h.1.trans k.1, fun i => (h.2 i).trans (k.2 i)⟩
theorem leR.eq {a b : List Nat} (h : leR a b) (k : leR b a) : a = b := by
 apply List.ext_getElem h.1
 intro i h1 h2
 have := (h.2 i).eq (k.2 i)
 simpa [List.getD_eq_getElem?_getD, h1, h2] using this
def wStep (a : List Nat) (j i : Nat) : List Nat := if (a.getD i 0).testBit j then a.set i (a.getD i 0 ||| a.getD j 0) else a
theorem wStep_len (a : List Nat) (j i : Nat) : (wStep a j i).length = a.length := by unfold wStep; split <;> simp
theorem wStep_le (a : List Nat) (j i : Nat) : leR a (wStep a j i) := by
 refine ⟨(wStep_len a j i).symm, fun k => ?_⟩
 unfold wStep
 split
 ·by_cases hk : i = k
  ·subst hk
   by_cases hi : i < a.length
   ·simp only [List.getD_eq_getElem?_getD, List.getElem?_set_self hi, Option.getD_some]
    exact inM_left _ _
   ·simp [List.getD_eq_getElem?_getD, Nat.not_lt.1 hi, inM]
  ·simp only [List.getD_eq_getElem?_getD, List.getElem?_set_ne hk]
   exact inM.refl _
 ·exact inM.refl _
def wRow (a : List Nat) (j : Nat) : Nat → List Nat
 | 0 => a
 | i + 1 => wStep (wRow a j i) j i
def wAll (a : List Nat) (n : Nat) : Nat → List Nat
 | 0 => a
 | j + 1 => wRow (wAll a n j) j n
theorem wRow_le (a : List Nat) (j : Nat) : ∀ i, leR a (wRow a j i)
 | 0 => leR.refl a
 | i + 1 => (wRow_le a j i).trans (wStep_le _ _ _)
theorem wAll_le (a : List Nat) (n : Nat) : ∀ j, leR a (wAll a n j)
 | 0 => leR.refl a
 | j + 1 => (wAll_le a n j).trans (wRow_le _ _ _)
def TransR (a : List Nat) : Prop := ∀ i j, i < a.length → j < a.length → (a.getD i 0).testBit j = true → inM (a.getD j 0) (a.getD i 0)
theorem wStep_id {a : List Nat} (h : TransR a) {i j : Nat} (hi : i < a.length) (hj : j < a.length) : wStep a j i = a := by
 unfold wStep
 split
 ·rename_i hb
  rw [or_inM (h i j hi hj hb)]
  apply List.ext_getElem (by simp)
  intro k h1 h2
  rw [List.getElem_set]
  split
  ·rename_i e; subst e; simp [List.getD_eq_getElem?_getD, hi]
  ·rfl
 ·rfl
theorem wRow_id {a : List Nat} (h : TransR a) {j : Nat} (hj : j < a.length) : ∀ i, i ≤ a.length → wRow a j i = a
 | 0, _ => rfl
 | i + 1, hi => by rw [wRow, wRow_id h hj i (by omega)]; exact wStep_id h (by omega) hj
theorem wAll_id {a : List Nat} (h : TransR a) : ∀ j, j ≤ a.length → wAll a a.length j = a
 | 0, _ => rfl
 | j + 1, hj => by rw [wAll, wAll_id h j (by omega)]; exact wRow_id h (by omega) _ (Nat.le_refl _)
theorem wAll_squeeze {a : List Nat} (h : wAll a a.length a.length = a) : TransR a := by
 have hrow : ∀ j, j ≤ a.length → wAll a a.length j = a := by
  intro j hj
  have h1 := wAll_le a a.length j
  have h2 : ∀ d, j + d ≤ a.length → leR (wAll a a.length j) (wAll a a.length (j + d)) := by
   intro d
   induction d with
   | zero => intro _; exact leR.refl _
   | succ d ih => intro hd; exact (ih (by omega)).trans (wRow_le _ _ _)
  have h3 := h2 (a.length - j) (by omega)
  rw [show j + (a.length - j) = a.length by omega, h] at h3
  exact h3.eq h1
 intro i j hi hj hb
 have hj1 := hrow (j + 1) (by omega)
 rw [wAll, hrow j (by omega)] at hj1
 have hmid : ∀ k, k ≤ a.length → wRow a j k = a := by
  intro k hk
  have h1 := wRow_le a j k
  have h2 : ∀ d, k + d ≤ a.length → leR (wRow a j k) (wRow a j (k + d)) := by
   intro d
   induction d with
   | zero => intro _; exact leR.refl _
   | succ d ih => intro hd; exact (ih (by omega)).trans (wStep_le _ _ _)
  have h3 := h2 (a.length - k) (by omega)
  rw [show k + (a.length - k) = a.length by omega, hj1] at h3
  exact h3.eq h1
 have hs := hmid (i + 1) (by omega)
 rw [wRow, hmid i (by omega)] at hs
 unfold wStep at hs
 rw [if_pos hb] at hs
 have h5 : (a.set i (a.getD i 0 ||| a.getD j 0)).getD i 0 = a.getD i 0 := by rw [hs]
 simp only [List.getD_eq_getElem?_getD, List.getElem?_set_self hi, Option.getD_some] at h5
 have h6 := inM_right (a.getD i 0) (a.getD j 0)
 simp only [List.getD_eq_getElem?_getD] at h6 ⊢
 rw [h5] at h6
 exact h6
theorem wAll_iff (a : List Nat) : wAll a a.length a.length = a ↔ TransR a := ⟨wAll_squeeze, fun h => wAll_id h _ (Nat.le_refl _)⟩
end Go.Proofs.YtfmmajgkjkmghaaGreatDoor
