/- Masks as natural numbers: bits, members, images of masks, on both sides. -/
import Derived.Test.YtgnlfceloiilbaaGreatGQ1
import Derived.Laws.Bits64
import Derived.Test.YtgnlfceloiilbaaGreatGMY
import Derived.Test.YtgnlfceloiilbaaGreatGV8
namespace Go.Proofs.YtgnlfceloiilbaaGreat
open Go.RowKit
theorem wrapN (n : Nat) (h : n < 4611686018427387904) : IntKind.i64.wrap (n : Int) = n := by
  simp [IntKind.wrap, IntKind.bits, IntKind.signed]
  try (split <;> omega)
theorem ofIntN (a : Nat) (ha : a < 4611686018427387904) : (BitVec.ofInt 64 (a : Int)).toNat = a := by
  rw [BitVec.ofInt_natCast, BitVec.toNat_ofNat]; exact Nat.mod_eq_of_lt (by omega)
theorem orN (a b : Nat) (ha : a < 4611686018427387904) (hb : b < 4611686018427387904) : bits .or .i64 (a : Int) (b : Int) = ((a ||| b : Nat) : Int) := by
  have hx : a ||| b < 2 ^ 62 := Nat.or_lt_two_pow (by omega) (by omega)
  show IntKind.i64.wrap ((BitVec.ofInt 64 (a : Int) ||| BitVec.ofInt 64 (b : Int)).toNat : Int) = _
  rw [BitVec.toNat_or, ofIntN a ha, ofIntN b hb]
  exact wrapN _ (by omega)
theorem andN (a b : Nat) (ha : a < 4611686018427387904) (hb : b < 4611686018427387904) : bits .and .i64 (a : Int) (b : Int) = ((a &&& b : Nat) : Int) := by
  have hx : a &&& b < 2 ^ 62 := Nat.and_lt_two_pow _ (by omega)
  show IntKind.i64.wrap ((BitVec.ofInt 64 (a : Int) &&& BitVec.ofInt 64 (b : Int)).toNat : Int) = _
  rw [BitVec.toNat_and, ofIntN a ha, ofIntN b hb]
  exact wrapN _ (by omega)
theorem andNotN (a b : Nat) (ha : a < 4611686018427387904) (hb : b < 4611686018427387904) : bits .andNot .i64 (a : Int) (b : Int) = ((a ^^^ (a &&& b) : Nat) : Int) := by
  have h1 : a &&& b < 2 ^ 62 := Nat.and_lt_two_pow _ (by omega)
  have hx : a ^^^ (a &&& b) < 2 ^ 62 := Nat.xor_lt_two_pow (by omega) h1
  show IntKind.i64.wrap ((BitVec.ofInt 64 (a : Int) &&& ~~~BitVec.ofInt 64 (b : Int)).toNat : Int) = _
  have h2 : ∀ x y : BitVec 64, x &&& ~~~y = x ^^^ (x &&& y) := by
    intro x y
    apply BitVec.eq_of_getLsbD_eq
    intro i hi
    simp only [BitVec.getLsbD_and, BitVec.getLsbD_not, BitVec.getLsbD_xor, hi, decide_true, Bool.true_and]
    cases x.getLsbD i <;> cases y.getLsbD i <;> rfl
  rw [h2, BitVec.toNat_xor, BitVec.toNat_and, ofIntN a ha, ofIntN b hb]
  exact wrapN _ (by omega)
theorem bitN (m i : Nat) (hm : m < 4611686018427387904) : (bits BinOp.and IntKind.i64 ((m : Int) / 2 ^ i) 1 == 1) = m.testBit i := by
  have h1 : ((m : Int) / 2 ^ i) = ((m / 2 ^ i : Nat) : Int) := by push_cast; rfl
  have h2 : m / 2 ^ i < 4611686018427387904 := Nat.lt_of_le_of_lt (Nat.div_le_self _ _) hm
  rw [h1, show (1 : Int) = ((1 : Nat) : Int) from rfl, andN _ _ h2 (by omega), Nat.and_one_is_mod, Nat.testBit_eq_decide_div_mod_eq, Bool.eq_iff_iff, beq_iff_eq, decide_eq_true_eq]
  omega
theorem quietS {f : FuncId} {args : Array Value} {w : World} {n : Nat} {v : Value} (h : Calls Tryz.prog f args (w.drewN n) fun e w' => e = .returned v ∧ w.drewN n = w') :
    Calls Tryz.prog f args (w.drewN n) fun e w'' => e = .returned v ∧ ∃ m, w'' = w.drewN m := h.mono fun _ _ ⟨he, hm⟩ => ⟨he, n, hm.symm⟩
/-- one mask lies in another one: decided -/
def inB (a b : Nat) : Bool := a ^^^ (a &&& b) == 0
theorem inB_iff (a b : Nat) : inB a b = true ↔ ∀ i, a.testBit i = true → b.testBit i = true := by
  unfold inB
  rw [beq_iff_eq]
  constructor
  · intro h i hi
    have := congrArg (fun n => n.testBit i) h
    simp only [Nat.testBit_xor, Nat.testBit_and, Nat.zero_testBit, hi] at this
    simpa using this
  · intro h
    apply Nat.eq_of_testBit_eq
    intro i
    simp only [Nat.testBit_xor, Nat.testBit_and, Nat.zero_testBit]
    cases hi : a.testBit i
    · simp
    · simp [h i hi]
theorem withinN (a b : Nat) (ha : a < 4611686018427387904) (hb : b < 4611686018427387904) : (bits .andNot .i64 (a : Int) (b : Int) == 0) = inB a b := by
  rw [andNotN a b ha hb]
  unfold inB
  rw [Bool.eq_iff_iff, beq_iff_eq, beq_iff_eq]
  omega
/-- the members of a mask below a bound -/
def lowB (m i : Nat) : List Nat := (List.range i).filter (fun j => m.testBit j)
/-- numbers as integers -/
def zs (l : List Nat) : List Int := l.map Int.ofNat
theorem zs_length (l : List Nat) : (zs l).length = l.length := by simp [zs]
theorem zs_get (l : List Nat) (i : Nat) (h : i < (zs l).length) : (zs l)[i] = ((l[i]'(by simpa [zs] using h) : Nat) : Int) := by simp [zs]
theorem zs_snoc (l : List Nat) (x : Nat) : zs (l ++ [x]) = zs l ++ [(x : Int)] := by simp [zs]
theorem lowB_succ (m i : Nat) : lowB m (i + 1) = if m.testBit i then lowB m i ++ [i] else lowB m i := by
  unfold lowB
  rw [List.range_succ, List.filter_append]
  by_cases h : m.testBit i <;> simp [h]
theorem lowB_len (m : Nat) (i : Nat) : (lowB m i).length ≤ i := by
  unfold lowB
  exact Nat.le_trans (List.length_filter_le _ _) (by simp)
theorem lowB_more (m i : Nat) (h : m < 2 ^ i) : ∀ d, lowB m (i + d) = lowB m i
  | 0 => rfl
  | d + 1 => by
    rw [← Nat.add_assoc, lowB_succ, lowB_more m i h d]
    have : m.testBit (i + d) = false := Nat.testBit_lt_two_pow (Nat.lt_of_lt_of_le h (Nat.pow_le_pow_right (by omega) (by omega)))
    simp [this]
def memB (m : Nat) : List Nat := lowB m 8
theorem lowB_end (m i : Nat) (_hm : m < 256) (hi : i ≤ 8) (h : m / 2 ^ i = 0) : lowB m i = memB m := by
  have h1 : m < 2 ^ i := by
    have hp : 0 < 2 ^ i := Nat.two_pow_pos i
    rcases Nat.lt_or_ge m (2 ^ i) with h' | h'
    · exact h'
    · have := Nat.div_pos h' hp; omega
  have := lowB_more m i h1 (8 - i)
  rw [show i + (8 - i) = 8 by omega] at this
  exact this.symm
theorem memB_mem {m x : Nat} (h : x ∈ memB m) : x < 8 ∧ m.testBit x = true := by
  simpa [memB, lowB] using h
theorem memB_lt {m n x : Nat} (hm : m < 2 ^ n) (h : x ∈ memB m) : x < n := by
  have h1 := (memB_mem h).2
  rcases Nat.lt_or_ge x n with h2 | h2
  · exact h2
  · rw [Nat.testBit_lt_two_pow (Nat.lt_of_lt_of_le hm (Nat.pow_le_pow_right (by omega) h2))] at h1; cases h1
theorem getD_get {b : List Nat} {i : Nat} (h : i < b.length) : b.getD i 0 = b[i] := by simp [List.getD_eq_getElem?_getD, h]
theorem Ints.zs_cell {w : World} {p : Option Addr} {n cap : Nat} {l : List Nat} (h : Ints w (.slice p n cap) (zs l)) (i : Nat) (hi : i < l.length) :
    ∃ b o, p = some ⟨b, o, none⟩ ∧ w.cell? ⟨b, o + i, none⟩ = some (.int .i64 ((l.getD i 0 : Nat) : Int)) := by
  obtain ⟨_, _, e, _, _, hat, _⟩ := h
  cases e
  obtain ⟨b, o, e, h1⟩ := hat.int i (by rw [zs_length]; exact hi)
  rw [zs_get, ← getD_get] at h1
  exact ⟨b, o, e, h1⟩
theorem two8 {n : Nat} (hn : n ≤ 8) : 2 ^ n ≤ 256 := Nat.pow_le_pow_right (by omega) hn
--
theorem hasB_any (m i : Nat) (w : World) (hm : m < 256) (hi : i ≤ 8) : Calls Tryz.prog 162 #[.int .i64 m, .int .i64 i] w fun e w' => e = .returned (.bool (m.testBit i)) ∧ w = w' := by
  go_enter Tryz.func162, Tryz.ntmps162
  go_wp2
  go_ret
  exact ⟨ret_bool (bitN m i (by omega)), rfl⟩
--
theorem l01BitB_any (m i : Nat) (w : World) (hm : m < 256) (hi : i ≤ 8) : Calls Tryz.prog 139 #[.int .i64 m, .int .i64 i] w fun e w' => e = .returned (.bool (m.testBit i)) ∧ w = w' := by
  go_enter Tryz.func139, Tryz.ntmps139
  go_wp2
  go_ret
  exact ⟨ret_bool (bitN m i (by omega)), rfl⟩
--
theorem withinB_any (a b : Nat) (w : World) (ha : a < 256) (hb : b < 256) : Calls Tryz.prog 271 #[.int .i64 a, .int .i64 b] w fun e w' => e = .returned (.bool (inB a b)) ∧ w = w' :=
  (within_any a b w).mono (by rintro e w' ⟨rfl, rfl⟩; exact ⟨ret_bool (withinN a b (by omega) (by omega)), rfl⟩)
--
set_option maxHeartbeats 1000000 in
theorem membersB_any (m : Nat) (w : World) (hm : m < 256) : Calls Tryz.prog 283 #[.int .i64 m] w (RetI w (zs (memB m))) := by
  go_enter Tryz.func283, Tryz.ntmps283
  go_wp2
  go_loopw [3, 4] (fun o i' wr => ∃ i : Nat, i ≤ 8 ∧ i' = .int .i64 i ∧ OwnI wr w.heap.size o (zs (lowB m i)) ∧ Keeps w wr) (fun _ i _ => 9 - (intOf i).toNat)
  case atStart => exact ⟨0, by omega, rfl, by simpa [lowB, zs] using OwnI.nil w w.heap.size, Keeps.refl w⟩
  case round =>
    obtain ⟨i, hi, rfl, hown, kw⟩ := hrel
    have hcast : (m : Int) / 2 ^ i = ((m / 2 ^ i : Nat) : Int) := by push_cast; rfl
    by_cases hp : 0 < m / 2 ^ i
    · have hi8 : i < 8 := by
        rcases Nat.lt_or_ge i 8 with h | h
        · exact h
        · obtain rfl : i = 8 := by omega
          omega
      have hd : decide ((m : Int) / 2 ^ i > 0) = true := by rw [hcast]; simp only [decide_eq_true_eq]; omega
      have hd' : (0 : Int) < (m : Int) / 2 ^ i := by rw [hcast]; omega
      have hls := lowB_succ m i
      have hll := lowB_len m i
      have hzl := zs_length (lowB m i)
      have HH := hid (hasB_any m i wr hm (by omega))
      have HLS := hid hls; clear hls
      clear hcast hp
      cases hb : m.testBit i
      · rw [hb] at HH HLS
        clear hb
        go_wp2_with fail
        refine HH.out.mono ?_; rintro e w' ⟨rfl, rfl⟩
        go_wp2_with fail
        go_roundw
        case rel => exact ⟨i + 1, by omega, by go_num, by have h := HLS.out; simp only [Bool.false_eq_true, if_false] at h; rw [h]; exact hown, kw⟩
        case measure => simp [intOf]; omega
      · rw [hb] at HH HLS
        clear hb
        go_wp2_with fail
        refine HH.out.mono ?_; rintro e w' ⟨rfl, rfl⟩
        go_wp2_with (at_builtin; refine appI rfl _ _ rfl w.heap.size _ (zs (lowB m i)) rfl (hown.keeps ((Keeps.refl wr).alloc _)) _ [(i : Int)] rfl (Ints.lit1 wr i) (by have := kw.size; simp; omega) (by simp; omega) ?_; intro v1 w1 hv1 hg1 hr1; have k2 := (kw.alloc (.cells #[.int .i64 i] 2)).grown hg1 (by simpa using hr1))
        go_roundw
        case rel => exact ⟨i + 1, by omega, by go_num, by have h := HLS.out; simp only [if_true] at h; rw [h, zs_snoc]; exact hv1, k2⟩
        case measure => simp [intOf]; omega
    · have hz : m / 2 ^ i = 0 := Nat.eq_zero_of_not_pos hp
      have hd : decide ((m : Int) / 2 ^ i > 0) = false := by rw [hcast, hz]; rfl
      have hd' : ¬ (0 : Int) < (m : Int) / 2 ^ i := by rw [hcast, hz]; simp
      have hle := lowB_end m i hm hi hz
      rw [hle] at hown
      clear hle hz hp hcast
      go_wp2
      go_ret
      exact ⟨_, rfl, hown, kw⟩
/-- what the members of a mask see -/
def imgL (b : List Nat) (m : Nat) : Nat → Nat
  | 0 => 0
  | k + 1 => if m.testBit k then imgL b m k ||| b.getD k 0 else imgL b m k
def foldB (b : List Nat) (l : List Nat) : Nat := l.foldl (fun acc i => acc ||| b.getD i 0) 0
theorem foldB_snoc (b l : List Nat) (x : Nat) : foldB b (l ++ [x]) = foldB b l ||| b.getD x 0 := by simp [foldB, List.foldl_append]
theorem foldB_low (b : List Nat) (m : Nat) : ∀ k, foldB b (lowB m k) = imgL b m k
  | 0 => rfl
  | k + 1 => by
    rw [lowB_succ, imgL]
    split
    · rw [foldB_snoc, foldB_low b m k]
    · exact foldB_low b m k
theorem imgL_more (b : List Nat) (m i : Nat) (h : m < 2 ^ i) (d : Nat) : imgL b m (i + d) = imgL b m i := by
  rw [← foldB_low, ← foldB_low, lowB_more m i h d]
def img (b : List Nat) (m : Nat) : Nat := imgL b m b.length
theorem foldB_mem (b : List Nat) (m : Nat) (hb : b.length ≤ 8) (hm : m < 2 ^ b.length) : foldB b (memB m) = img b m := by
  unfold memB img
  rw [foldB_low, show 8 = b.length + (8 - b.length) by omega, imgL_more b m _ hm]
theorem getD_lt {b : List Nat} {n : Nat} (h : ∀ x ∈ b, x < 2 ^ n) (i : Nat) : b.getD i 0 < 2 ^ n := by
  rw [List.getD_eq_getElem?_getD]
  by_cases hi : i < b.length
  · simp only [List.getElem?_eq_getElem hi, Option.getD_some]; exact h _ (List.getElem_mem hi)
  · simp only [List.getElem?_eq_none (Nat.le_of_not_lt hi), Option.getD_none]; exact Nat.two_pow_pos n
theorem foldB_lt {b : List Nat} {n : Nat} (h : ∀ x ∈ b, x < 2 ^ n) (l : List Nat) : foldB b l < 2 ^ n := by
  have : ∀ (l : List Nat) (acc : Nat), acc < 2 ^ n → l.foldl (fun acc i => acc ||| b.getD i 0) acc < 2 ^ n := by
    intro l
    induction l with
    | nil => intro acc h; exact h
    | cons x l ih => intro acc hacc; exact ih _ (Nat.or_lt_two_pow hacc (getD_lt h x))
  exact this l 0 (Nat.two_pow_pos n)
theorem imgL_lt {b : List Nat} {n : Nat} (h : ∀ x ∈ b, x < 2 ^ n) (m k : Nat) : imgL b m k < 2 ^ n := by rw [← foldB_low]; exact foldB_lt h _
theorem img_lt {b : List Nat} {n : Nat} (h : ∀ x ∈ b, x < 2 ^ n) (m : Nat) : img b m < 2 ^ n := imgL_lt h m _
--
set_option maxHeartbeats 1000000 in
theorem l01Image_any (b : List Nat) (m : Nat) (v : Value) (w : World) (hv : Ints w v (zs b)) (hb : b.length ≤ 8) (hbm : ∀ x ∈ b, x < 2 ^ b.length) (hm : m < 2 ^ b.length) :
    Calls Tryz.prog 359 #[v, .int .i64 m] w fun e w' => e = .returned (.int .i64 (img b m)) ∧ w = w' := by
  obtain ⟨p, cap, rfl, hle, hmx, hat, _⟩ := hv
  unfold maxLen at hmx
  rw [zs_length] at *
  have h256 := two8 hb
  have hm256 := Nat.lt_of_lt_of_le hm h256
  have HB := hid (fun i w2 (hi : i ≤ 8) => l01BitB_any m i w2 hm256 hi)
  have HL := hid (fun k => imgL_lt (b := b) hbm m k)
  have HG := hid (getD_lt (b := b) hbm)
  clear hm hbm
  go_enter Tryz.func359, Tryz.ntmps359
  go_wp2
  go_loop [5, 6] (fun o i' => ∃ i : Nat, i ≤ b.length ∧ i' = .int .i64 i ∧ o = .int .i64 (imgL b m i)) (fun _ i => b.length - (intOf i).toNat)
  case atStart => exact ⟨0, by omega, rfl, rfl⟩
  case round =>
    obtain ⟨i, hi, rfl, rfl⟩ := hrel
    by_cases hlt : i < b.length
    · obtain ⟨b2, o2, rfl, h2⟩ := hat.int i (by rw [zs_length]; exact hlt)
      rw [zs_get] at h2
      have hst : imgL b m (i + 1) = if m.testBit i then imgL b m i ||| b.getD i 0 else imgL b m i := rfl
      rw [getD_get hlt] at hst
      have hor := orN (imgL b m i) b[i] (Nat.lt_of_lt_of_le (HL.out _) (by omega)) (by rw [← getD_get hlt]; exact Nat.lt_of_lt_of_le (HG.out _) (by omega))
      have hlt' : (i : Int) < b.length := by omega
      have HH := hid (HB.out i w (by omega))
      have HO := hid hor; clear hor
      have HS := hid hst; clear hst
      clear hat
      generalize b[i] = y at *
      cases hbit : m.testBit i
      · rw [hbit] at HH HS
        clear hbit
        go_wp2_with fail
        refine HH.out.mono ?_; rintro e w' ⟨rfl, rfl⟩
        go_wp2_with fail
        go_round
        case rel => exact ⟨i + 1, by omega, by go_num, by have h := HS.out; simp only [Bool.false_eq_true, if_false] at h; rw [h]⟩
        case measure => simp [intOf]; omega
      · rw [hbit] at HH HS
        clear hbit
        go_wp2_with fail
        refine HH.out.mono ?_; rintro e w' ⟨rfl, rfl⟩
        go_wp2_with fail
        go_round
        case rel => exact ⟨i + 1, by omega, by go_num, by have h := HS.out; simp only [if_true] at h; rw [h, HO.out]⟩
        case measure => simp [intOf]; omega
    · have hlt' : ¬ (i : Int) < b.length := by omega
      obtain rfl : i = b.length := by omega
      go_wp2
      go_ret
      exact ⟨rfl, rfl⟩
end Go.Proofs.YtgnlfceloiilbaaGreat
/- Equality of formulas; rows of elementary parts searched. -/
namespace Go.Proofs.YtgnlfceloiilbaaGreat
open Go.RowKit
theorem neqNd (k i k' i' : Int) (w : World) : (binOp .neq 145 (.agg #[.int .i64 k, .int .i64 i]) (.agg #[.int .i64 k', .int .i64 i'])).run Tryz.prog w = .ok (.bool (!(k == k' && i == i'))) w := by
  by_cases h1 : k = k' <;> by_cases h2 : i = i' <;> simp [go_sem, h1, h2]
--
set_option maxHeartbeats 800000 in
theorem equalN_any (a b : List Nd) (va vb : Value) (w : World) (hva : Nds w va a) (hvb : Nds w vb b) :
    Calls Tryz.prog 298 #[va, vb] w fun e w' => e = .returned (.bool (decide (a = b))) ∧ Keeps w w' := by
  have hva0 := hva
  have hvb0 := hvb
  obtain ⟨pa, ca, rfl, hlea, hmxa, _, hlena⟩ := hva
  obtain ⟨pb, cb, rfl, hleb, hmxb, _, hlenb⟩ := hvb
  unfold maxLen at hmxa hmxb
  by_cases hl : a.length = b.length
  · have hl' : ((a.length : Int) != (b.length : Int)) = false := by simp [hl]
    have HL := hid hl; clear hl
    go_enter Tryz.func298, Tryz.ntmps298
    go_wp2
    go_loopw [4, 13] (fun r i' wr => ∃ k : Nat, k ≤ a.length ∧ a.take k = b.take k ∧ Keeps w wr ∧ i' = .int .i64 k ∧ r = .bool false) (fun _ i _ => a.length - (intOf i).toNat)
    case atStart => exact ⟨0, by omega, rfl, Keeps.refl w, rfl, rfl⟩
    case round =>
      obtain ⟨k, hk, htk, kw, rfl, rfl⟩ := hrel
      have HT := hid htk; clear htk
      clear hl'
      by_cases hlt : k < a.length
      · have hltb : k < b.length := by have := HL.out; omega
        obtain ⟨_, _, e1, _, _, hata, _⟩ := hva0.keeps kw
        obtain ⟨_, _, e2, _, _, hatb, _⟩ := hvb0.keeps kw
        cases e1; cases e2
        obtain ⟨b1, o1, rfl, h1, h2⟩ := hata.nd k hlt
        obtain ⟨b2, o2, rfl, h3, h4⟩ := hatb.nd k hltb
        clear hata hatb hva0 hvb0
        have hlt' : (k : Int) < a.length := by omega
        have hltb' : (k : Int) < b.length := by omega
        by_cases he : a[k] = b[k]
        · have HE := hid he
          rw [he] at h1 h2
          have hd := fun wz => neqNd b[k].k b[k].s b[k].k b[k].s wz
          simp only [beq_self_eq_true, Bool.and_self, Bool.not_true] at hd
          go_wp2_with fail
          go_quiet (fail)
          go_wp2
          go_roundw
          case rel => exact ⟨k + 1, by omega, by rw [List.take_succ_eq_append_getElem hlt, List.take_succ_eq_append_getElem hltb, HT.out, HE.out], kw.drewN _, by go_num, rfl⟩
          case measure => simp [intOf]; omega
        · have HE := hid he
          have hd := fun wz => neqNd a[k].k a[k].s b[k].k b[k].s wz
          rw [show (a[k].k == b[k].k && a[k].s == b[k].s) = false by
            rw [Bool.eq_false_iff]
            intro h
            rw [Bool.and_eq_true, beq_iff_eq, beq_iff_eq] at h
            exact he (by cases hx : a[k]; cases hy : b[k]; rw [hx, hy] at h; simp at h; rw [h.1, h.2]), Bool.not_false] at hd
          clear he
          go_wp2_with fail
          go_quiet (fail)
          go_wp2
          go_ret
          refine ⟨ret_bool ?_, kw.drewN _⟩
          symm; rw [decide_eq_false_iff_not]
          rintro rfl; exact HE.out rfl
      · have hlt' : ¬ (k : Int) < a.length := by omega
        go_wp2
        go_ret
        refine ⟨ret_bool ?_, kw⟩
        symm; rw [decide_eq_true_eq]
        have h1 := HL.out; have h2 := HT.out
        rw [List.take_of_length_le (by omega), List.take_of_length_le (by omega)] at h2
        exact h2
  · have hl' : ((a.length : Int) != (b.length : Int)) = true := by simp; omega
    have HL := hid hl; clear hl
    go_enter Tryz.func298, Tryz.ntmps298
    go_wp2
    go_ret
    refine ⟨ret_bool ?_, Keeps.refl _⟩
    symm; rw [decide_eq_false_iff_not]
    rintro rfl; exact HL.out rfl
--
theorem same_any (a b : List Nd) (va vb : Value) (w : World) (hva : Nds w va a) (hvb : Nds w vb b) :
    Calls Tryz.prog 235 #[va, vb] w fun e w' => e = .returned (.bool (decide (a = b))) ∧ Keeps w w' := by
  have H := hid (equalN_any a b va vb w hva hvb)
  clear hva hvb
  go_enter Tryz.func235, Tryz.ntmps235
  go_wp2_with fail
  refine H.out.mono ?_; rintro e w2 ⟨rfl, k2⟩
  go_wp2_with fail
  go_ret
  exact ⟨rfl, k2⟩
theorem idx_el (E : List Fm) (t : Fm) (h : t ∈ E) : ∀ k, idxOf (fun x => decide (x = t.enc)) (E.map Fm.enc) k = ((k + E.idxOf t : Nat) : Int) ∧ E.idxOf t < E.length := by
  induction E with
  | nil => simp at h
  | cons a E ih =>
    intro k
    by_cases ha : a = t
    · subst ha
      simp [idxOf]
    · have hne : ¬ a.enc = t.enc := fun e => ha (enc_inj e)
      have hm : t ∈ E := by simpa [Ne.symm ha, eq_comm] using h
      obtain ⟨h1, h2⟩ := ih hm (k + 1)
      have hi : List.idxOf t (a :: E) = List.idxOf t E + 1 := by rw [List.idxOf_cons, show (a == t) = false by simp [ha]]; rfl
      rw [hi]
      refine ⟨?_, by simp; omega⟩
      simp only [List.map_cons, idxOf, hne, decide_false]
      simp only [Bool.false_eq_true, if_false]
      rw [h1]; congr 1; omega
--
set_option maxHeartbeats 400000 in
theorem indexFuncE (pr : List Nd → Bool) (f : FuncId) (cp : Array Value) (ss : List ByteArray) (xs : List (List Nd)) (v : Value) (w : World) (hv : ElL w v ss xs) (hcf : Enters f)
    (hf : ∀ (i : Nat) (h : i < xs.length) (s : ByteArray) (u : Value) (w1 : World), Keeps w w1 → Nds w1 u xs[i] → Calls Tryz.prog f (#[.agg #[.string s, u]] ++ cp) w1 fun e w2 => e = .returned (.bool (pr xs[i])) ∧ Keeps w1 w2) :
    Calls Tryz.prog 233 #[v, .func (.func f) #[] cp] w fun e w' => e = .returned (.int .i64 (idxOf pr xs 0)) ∧ Keeps w w' := by
  have hv0 := hv
  obtain ⟨p, cap, rfl, hle, hmx, hxl, hlen, _⟩ := hv
  unfold maxLen at hmx
  have HXL := hid hxl; clear hxl
  have HF := hid hf; clear hf
  have hcf' : ∀ args w, (callFunc f args).run Tryz.prog w = .ok (.enter f args) w := hcf
  clear hcf
  go_enter Tryz.func233, Tryz.ntmps233
  go_wp2
  go_loopw [4, 8] (fun r i' wr => ∃ k : Nat, k ≤ ss.length ∧ idxOf pr xs 0 = idxOf pr (xs.drop k) k ∧ Keeps w wr ∧ i' = .int .i64 k ∧ r = .int .i64 0) (fun _ i _ => ss.length - (intOf i).toNat)
  case atStart => exact ⟨0, by omega, by simp, Keeps.refl w, rfl, rfl⟩
  case round =>
    obtain ⟨k, hk, hs, kw, rfl, rfl⟩ := hrel
    have Hs := hid hs; clear hs
    by_cases hlt : k < ss.length
    · have hltx : k < xs.length := by have := HXL.out; omega
      obtain ⟨_, _, e0, -, -, -, -, hget⟩ := hv0.keeps kw
      obtain ⟨b1, o1, u1, e1, h1, h2, hnd⟩ := hget k hlt hltx
      cases e0
      cases e1
      have hd := hid (idxOf_drop pr xs k hltx)
      obtain ⟨q1, n1, c1', rfl⟩ := hnd.shape
      clear hv0 hget
      have hlt' : (k : Int) < ss.length := by omega
      cases hp : pr xs[k]
      all_goals
        have Hp := hid hp; clear hp
        go_wp2_with ((with_reducible refine (HF.out k hltx ss[k] (.slice q1 n1 c1') wr kw hnd).mono ?_); rintro e w2 ⟨rfl, k2⟩; rw [Hp.out])
      · go_roundw
        case rel => exact ⟨k + 1, by omega, by rw [Hs.out, hd.out, Hp.out]; rfl, kw.trans k2, by go_num, rfl⟩
        case measure => simp [intOf]; omega
      · go_ret
        exact ⟨ret_int (by rw [Hs.out, hd.out, Hp.out]; rfl), kw.trans k2⟩
    · have hlt' : ¬ (k : Int) < ss.length := by omega
      go_wp2
      go_ret
      exact ⟨ret_int (by rw [Hs.out, idxOf_end _ _ _ (by have := HXL.out; omega)]), kw⟩
--
theorem valueIn1_any (s : ByteArray) (x y : List Nd) (u vf : Value) (g : Nat) (w : World) (hc : w.cell? ⟨g, 0, none⟩ = some vf) (hf : Nds w vf y) (hu : Nds w u x) :
    Calls Tryz.prog 234 #[.agg #[.string s, u], .pointer (some ⟨g, 0, none⟩)] w fun e w' => e = .returned (.bool (decide (x = y))) ∧ Keeps w w' := by
  obtain ⟨p, c, rfl, -⟩ := id hf
  obtain ⟨q, c2, rfl, -⟩ := id hu
  have kA := (Keeps.refl w).alloc (.cells #[.string s, .slice q x.length c2] 183)
  have cA := kA.cell hc
  have H := hid (same_any x y _ _ _ (hu.keeps kA) (hf.keeps kA))
  clear hf hu hc
  go_enter Tryz.func234, Tryz.ntmps234
  go_wp2_with fail
  refine H.out.mono ?_; rintro e w2 ⟨rfl, k2⟩
  go_wp2_with fail
  go_ret
  exact ⟨rfl, kA.trans k2⟩
--
theorem enters_valueIn1 : Enters 234 := fun _ _ => by kernel_rfl
set_option maxRecDepth 20000 in
set_option maxHeartbeats 2000000 in
theorem valueIn_el (E : List Fm) (ss : List ByteArray) (h8 : E.length ≤ 8) (m : Nat) (hm : m < 256) (t : Fm) (hk : t.kind = 0 ∨ t.kind = 5 ∨ t.kind = 6) (ht : t ∈ E) (v : Value) (w : World) (r : Nat) (pv : Value)
    (hv : Nds w v t.enc) (hc1 : w.cell? ⟨r, 1, none⟩ = some pv) (hp : ElL w pv ss (E.map Fm.enc)) :
    Calls Tryz.prog 146 #[.pointer (some ⟨r, 0, none⟩), v, .int .i64 m] w fun e w' => e = .returned (.bool (m.testBit (E.idxOf t))) ∧ Keeps w w' := by
  have hv0 := hv
  obtain ⟨b, off, n, cap, rfl, h0, h1, h2, h3, hc, -⟩ := hv.root
  have kA := (Keeps.refl w).alloc (.cells #[.slice (some ⟨b, off, none⟩) n cap] 73)
  have c0 : (w.alloc (.cells #[.slice (some ⟨b, off, none⟩) n cap] 73)).cell? ⟨w.heap.size, 0, none⟩ = some (.slice (some ⟨b, off, none⟩) n cap) := by simp
  have hcA := kA.cell hc
  have hc1A := kA.cell hc1
  obtain ⟨hi1, hi2⟩ := idx_el E t ht 0
  rw [Nat.zero_add] at hi1
  have HI := hid (indexFuncE (fun x => decide (x = t.enc)) 234 #[.pointer (some ⟨w.heap.size, 0, none⟩)] ss (E.map Fm.enc) pv _ (hp.keeps kA) enters_valueIn1
    (fun i h s u w1 k1 hu => valueIn1_any s _ _ u _ _ w1 (k1.cell c0) ((hv0.keeps kA).keeps k1) hu))
  rw [hi1] at HI
  have HB := hid (fun wz => hasB_any m (E.idxOf t) wz hm (by omega))
  unfold maxLen at h2
  obtain ⟨pp, pc, rfl, -⟩ := hp
  clear hv hv0 hc1 hc
  generalize hJ : E.idxOf t = j
  rw [hJ] at HI HB
  clear hJ hi1 hi2
  rcases hk with hk | hk | hk
  all_goals
    rw [hk] at hcA
    go_enter Tryz.func146, Tryz.ntmps146
    go_wp2_with fail
    refine HI.out.mono ?_; rintro e w2 ⟨rfl, k2⟩
    go_wp2_with fail
    refine (HB.out _).mono ?_; rintro e w3 ⟨rfl, rfl⟩
    go_wp2_with fail
    go_ret
    exact ⟨rfl, kA.trans k2⟩
end Go.Proofs.YtgnlfceloiilbaaGreat
/- Needs of types, program side: what they ask of a type. -/
namespace Go.Proofs.YtgnlfceloiilbaaGreat
open Go.RowKit
structure Nee where
  ix : Nat
  bx : Bool
  inn : List Bool
def Nee.kd (n : Nee) : Int := if n.bx then 5 else 6
def Nee.dem (n : Nee) (m : Nat) : Bool := m.testBit n.ix == n.bx
def Nee.mee (n : Nee) (m : Nat) : Bool := n.inn.getD m false == n.bx
/-- rows of needs, read -/
def NeeL (w : World) (v : Value) (ns : List Nee) : Prop :=
  ∃ p cap, v = .slice p ns.length cap ∧ ns.length ≤ cap ∧ cap ≤ maxLen ∧ ns.length ≤ 8 ∧
    ∀ i (h : i < ns.length), ∃ b off u, p = some ⟨b, off, none⟩ ∧ w.cell? ⟨b, off + i * 3, none⟩ = some (.int .i64 ns[i].ix) ∧ w.cell? ⟨b, off + i * 3 + 1, none⟩ = some (.int .i64 ns[i].kd) ∧ w.cell? ⟨b, off + i * 3 + 2, none⟩ = some u ∧ Bools w u ns[i].inn
theorem NeeL.keeps {w w' : World} {v : Value} {ns : List Nee} (h : NeeL w v ns) (k : Keeps w w') : NeeL w' v ns := by
  obtain ⟨p, cap, h1, h2, h3, h4, h5⟩ := h
  exact ⟨p, cap, h1, h2, h3, h4, fun i a => by obtain ⟨b, off, u, e1, e2, e3, e4, e5⟩ := h5 i a; exact ⟨b, off, u, e1, k.cell e2, k.cell e3, k.cell e4, e5.keeps k⟩⟩
theorem Bools.shape {w : World} {v : Value} {a : List Bool} (h : Bools w v a) : ∃ p c, v = .slice p a.length c ∧ a.length ≤ c ∧ c ≤ maxLen := by
  obtain ⟨p, c, e, h1, h2, _⟩ := h
  exact ⟨p, c, e, h1, h2⟩
theorem box3 (w : World) (a b c : Value) (ty : TypeId) : (w.alloc (.cells #[a, b, c] ty)).cell? ⟨w.heap.size, 0, none⟩ = some a ∧ (w.alloc (.cells #[a, b, c] ty)).cell? ⟨w.heap.size, 1, none⟩ = some b ∧ (w.alloc (.cells #[a, b, c] ty)).cell? ⟨w.heap.size, 2, none⟩ = some c := by
  refine ⟨?_, ?_, ?_⟩ <;> simp
--
set_option maxHeartbeats 1000000 in
theorem demands_any (n : Nee) (hi : n.ix ≤ 8) (m : Nat) (hm : m < 256) (q : Option Addr) (l c : Nat) (w : World) :
    Calls Tryz.prog 153 #[.agg #[.int .i64 n.ix, .int .i64 n.kd, .slice q l c], .int .i64 m] w fun e w' => e = .returned (.bool (n.dem m)) ∧ Keeps w w' := by
  obtain ⟨ix, bx, inn⟩ := n
  have kA := (Keeps.refl w).alloc (.cells #[.int .i64 ix, .int .i64 (Nee.kd ⟨ix, bx, inn⟩), .slice q l c] 186)
  obtain ⟨c0, c1, c2⟩ := box3 w (.int .i64 ix) (.int .i64 (Nee.kd ⟨ix, bx, inn⟩)) (.slice q l c) 186
  have HB := hid (fun wz => hasB_any m ix wz hm hi)
  have HD : Hid (Nee.dem ⟨ix, bx, inn⟩ m = (m.testBit ix == bx)) := hid rfl
  rw [HD.out]
  cases bx
  · rw [show Nee.kd ⟨ix, false, inn⟩ = 6 from rfl] at *
    go_enter Tryz.func153, Tryz.ntmps153
    go_wp2_with fail
    go_quiet (first | (go_at_call 162; refine quietS (HB.out _)))
    go_wp2_with fail
    go_ret
    exact ⟨ret_bool (by cases m.testBit ix <;> rfl), kA.drewN _⟩
  · rw [show Nee.kd ⟨ix, true, inn⟩ = 5 from rfl] at *
    go_enter Tryz.func153, Tryz.ntmps153
    go_wp2_with fail
    go_quiet (first | (go_at_call 162; refine quietS (HB.out _)))
    go_wp2_with fail
    go_ret
    exact ⟨ret_bool (by cases m.testBit ix <;> rfl), kA.drewN _⟩
--
set_option maxHeartbeats 1000000 in
theorem meets_any (n : Nee) (m : Nat) (hm : m < n.inn.length) (h256 : n.inn.length ≤ 256) (u : Value) (w : World) (hu : Bools w u n.inn) :
    Calls Tryz.prog 240 #[.agg #[.int .i64 n.ix, .int .i64 n.kd, u], .int .i64 m] w fun e w' => e = .returned (.bool (n.mee m)) ∧ Keeps w w' := by
  obtain ⟨ix, bx, inn⟩ := n
  simp only at hm h256 hu
  have hu0 := hu
  obtain ⟨q, c, rfl, hl, hx⟩ := hu.shape
  unfold maxLen at hx
  have kA := (Keeps.refl w).alloc (.cells #[.int .i64 ix, .int .i64 (Nee.kd ⟨ix, bx, inn⟩), .slice q inn.length c] 186)
  obtain ⟨c0, c1, c2⟩ := box3 w (.int .i64 ix) (.int .i64 (Nee.kd ⟨ix, bx, inn⟩)) (.slice q inn.length c) 186
  obtain ⟨_, _, e0, -, -, hat, -⟩ := hu0.keeps kA
  cases e0
  obtain ⟨b, off, rfl, h1⟩ := hat.bool m hm
  have hm' : (m : Int) < inn.length := by omega
  have HD : Hid (Nee.mee ⟨ix, bx, inn⟩ m = (inn[m] == bx)) := hid (by unfold Nee.mee; rw [List.getD_eq_getElem?_getD, List.getElem?_eq_getElem hm]; rfl)
  rw [HD.out]
  clear hu hu0 hat
  generalize inn[m] = y at *
  cases bx
  · rw [show Nee.kd ⟨ix, false, inn⟩ = 6 from rfl] at *
    go_enter Tryz.func240, Tryz.ntmps240
    go_wp2_with fail
    go_quiet (fail)
    go_wp2_with fail
    go_ret
    exact ⟨ret_bool (by cases y <;> rfl), kA.drewN _⟩
  · rw [show Nee.kd ⟨ix, true, inn⟩ = 5 from rfl] at *
    go_enter Tryz.func240, Tryz.ntmps240
    go_wp2_with fail
    go_quiet (fail)
    go_wp2_with fail
    go_ret
    exact ⟨ret_bool (by cases y <;> rfl), kA.drewN _⟩
--
set_option maxHeartbeats 400000 in
theorem indexFuncNe (pr : Nee → Bool) (f : FuncId) (cp : Array Value) (ns : List Nee) (v : Value) (w : World) (hv : NeeL w v ns) (hcf : Enters f)
    (hf : ∀ (n : Nee) (q : Option Addr) (c : Nat) (w1 : World), n ∈ ns → Keeps w w1 → Bools w1 (.slice q n.inn.length c) n.inn → Calls Tryz.prog f (#[.agg #[.int .i64 n.ix, .int .i64 n.kd, .slice q n.inn.length c]] ++ cp) w1 fun e w2 => e = .returned (.bool (pr n)) ∧ Keeps w1 w2) :
    Calls Tryz.prog 299 #[v, .func (.func f) #[] cp] w fun e w' => e = .returned (.int .i64 (idxOf pr ns 0)) ∧ Keeps w w' := by
  have hv0 := hv
  obtain ⟨p, cap, rfl, hle, hmx, hlen, -⟩ := hv
  unfold maxLen at hmx
  have HF := hid hf; clear hf
  have hcf' : ∀ args w, (callFunc f args).run Tryz.prog w = .ok (.enter f args) w := hcf
  clear hcf
  go_enter Tryz.func299, Tryz.ntmps299
  go_wp2
  go_loopw [4, 8] (fun r i' wr => ∃ k : Nat, k ≤ ns.length ∧ idxOf pr ns 0 = idxOf pr (ns.drop k) k ∧ Keeps w wr ∧ i' = .int .i64 k ∧ r = .int .i64 0) (fun _ i _ => ns.length - (intOf i).toNat)
  case atStart => exact ⟨0, by omega, by simp, Keeps.refl w, rfl, rfl⟩
  case round =>
    obtain ⟨k, hk, hs, kw, rfl, rfl⟩ := hrel
    have Hs := hid hs; clear hs
    by_cases hlt : k < ns.length
    · obtain ⟨_, _, e0, -, -, -, hget⟩ := hv0.keeps kw
      obtain ⟨b1, o1, u1, e1, h1, h2, h3, hnd⟩ := hget k hlt
      cases e0
      cases e1
      have hd := hid (idxOf_drop pr ns k hlt)
      obtain ⟨q1, c1', rfl, -, -⟩ := hnd.shape
      clear hv0 hget
      have hlt' : (k : Int) < ns.length := by omega
      cases hp : pr ns[k]
      all_goals
        have Hp := hid hp; clear hp
        go_wp2_with ((with_reducible refine (HF.out ns[k] q1 c1' wr (List.getElem_mem hlt) kw hnd).mono ?_); rintro e w2 ⟨rfl, k2⟩; rw [Hp.out])
      · go_roundw
        case rel => exact ⟨k + 1, by omega, by rw [Hs.out, hd.out, Hp.out]; rfl, kw.trans k2, by go_num, rfl⟩
        case measure => simp [intOf]; omega
      · go_ret
        exact ⟨ret_int (by rw [Hs.out, hd.out, Hp.out]; rfl), kw.trans k2⟩
    · have hlt' : ¬ (k : Int) < ns.length := by omega
      go_wp2
      go_ret
      exact ⟨ret_int (by rw [Hs.out, idxOf_end _ _ _ (by omega)]), kw⟩
--
theorem containsFuncNe (pr : Nee → Bool) (f : FuncId) (cp : Array Value) (ns : List Nee) (v : Value) (w : World) (hv : NeeL w v ns) (hcf : Enters f)
    (hf : ∀ (n : Nee) (q : Option Addr) (c : Nat) (w1 : World), n ∈ ns → Keeps w w1 → Bools w1 (.slice q n.inn.length c) n.inn → Calls Tryz.prog f (#[.agg #[.int .i64 n.ix, .int .i64 n.kd, .slice q n.inn.length c]] ++ cp) w1 fun e w2 => e = .returned (.bool (pr n)) ∧ Keeps w1 w2) :
    Calls Tryz.prog 238 #[v, .func (.func f) #[] cp] w fun e w' => e = .returned (.bool (ns.any pr)) ∧ Keeps w w' := by
  have H := hid (indexFuncNe pr f cp ns v w hv hcf hf)
  clear hv hf hcf
  have he := hid (idxOf_any pr ns 0)
  go_enter Tryz.func238, Tryz.ntmps238
  go_wp2_with (go_at_call 299; refine H.out.mono ?_; rintro e w2 ⟨rfl, k2⟩)
  go_ret
  exact ⟨ret_bool he.out, k2⟩
end Go.Proofs.YtgnlfceloiilbaaGreat
