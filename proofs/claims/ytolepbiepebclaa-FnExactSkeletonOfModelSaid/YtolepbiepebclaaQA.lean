/- Masks as natural numbers: bits, members, images of masks, on both sides. -/
import Derived.Test.YtolepbiepebclaaQ1
import Derived.Laws.Bits64
namespace Go.Proofs.Ytolepbiepebclaa
open Go.RowKit
theorem wrapN (n : Nat) (h : n < 4611686018427387904) : IntKind.i64.wrap (n : Int) = n := by
  simp [IntKind.wrap, IntKind.bits, IntKind.signed]
  try (split <;> omega)
theorem ofIntN (a : Nat) (ha : a < 4611686018427387904) : (BitVec.ofInt 64 (a : Int)).toNat = a := by
  rw [BitVec.ofInt_natCast, BitVec.toNat_ofNat]; exact Nat.mod_eq_of_lt (by omega)
theorem orN (a b : Nat) (ha : a < 4611686018427387904) (hb : b < 4611686018427387904) : bits .or .i64 (a : Int) (b : Int) = ((a ||| b : Nat) : Int) := by
  have hx : a ||| b < 2 ^ 62 := Nat.or_lt_two_pow (by omega) (by omega)
  show IntKind.i64.wrap ((BitVec.ofInt 64 (a : Int) ||| BitVec.ofInt 64 (b : Int)).toNat : Int) = _
  rw [BitVec.toNat_or, ofIntN a ha, ofIntN b hb]
  exact wrapN _ (by omega)
theorem andN (a b : Nat) (ha : a < 4611686018427387904) (hb : b < 4611686018427387904) : bits .and .i64 (a : Int) (b : Int) = ((a &&& b : Nat) : Int) := by
  have hx : a &&& b < 2 ^ 62 := Nat.and_lt_two_pow _ (by omega)
  show IntKind.i64.wrap ((BitVec.ofInt 64 (a : Int) &&& BitVec.ofInt 64 (b : Int)).toNat : Int) = _
  rw [BitVec.toNat_and, ofIntN a ha, ofIntN b hb]
  exact wrapN _ (by omega)
theorem andNotN (a b : Nat) (ha : a < 4611686018427387904) (hb : b < 4611686018427387904) : bits .andNot .i64 (a : Int) (b : Int) = ((a ^^^ (a &&& b) : Nat) : Int) := by
  have h1 : a &&& b < 2 ^ 62 := Nat.and_lt_two_pow _ (by omega)
  have hx : a ^^^ (a &&& b) < 2 ^ 62 := Nat.xor_lt_two_pow (by omega) h1
  show IntKind.i64.wrap ((BitVec.ofInt 64 (a : Int) &&& ~~~BitVec.ofInt 64 (b : Int)).toNat : Int) = _
  have h2 : ∀ x y : BitVec 64, x &&& ~~~y = x ^^^ (x &&& y) := by
    intro x y
    apply BitVec.eq_of_getLsbD_eq
    intro i hi
    simp only [BitVec.getLsbD_and, BitVec.getLsbD_not, BitVec.getLsbD_xor, hi, decide_true, Bool.true_and]
    cases x.getLsbD i <;> cases y.getLsbD i <;> rfl
  rw [h2, BitVec.toNat_xor, BitVec.toNat_and, ofIntN a ha, ofIntN b hb]
  exact wrapN _ (by omega)
theorem bitN (m i : Nat) (hm : m < 4611686018427387904) : (bits BinOp.and IntKind.i64 ((m : Int) / 2 ^ i) 1 == 1) = m.testBit i := by
  have h1 : ((m : Int) / 2 ^ i) = ((m / 2 ^ i : Nat) : Int) := by push_cast; rfl
  have h2 : m / 2 ^ i < 4611686018427387904 := Nat.lt_of_le_of_lt (Nat.div_le_self _ _) hm
  rw [h1, show (1 : Int) = ((1 : Nat) : Int) from rfl, andN _ _ h2 (by omega), Nat.and_one_is_mod, Nat.testBit_eq_decide_div_mod_eq, Bool.eq_iff_iff, beq_iff_eq, decide_eq_true_eq]
  omega
theorem quietS {f : FuncId} {args : Array Value} {w : World} {n : Nat} {v : Value} (h : Calls Try.prog f args (w.drewN n) fun e w' => e = .returned v ∧ w.drewN n = w') :
    Calls Try.prog f args (w.drewN n) fun e w'' => e = .returned v ∧ ∃ m, w'' = w.drewN m := h.mono fun _ _ ⟨he, hm⟩ => ⟨he, n, hm.symm⟩
/-- one mask lies in another one: decided -/
def inB (a b : Nat) : Bool := a ^^^ (a &&& b) == 0
theorem inB_iff (a b : Nat) : inB a b = true ↔ ∀ i, a.testBit i = true → b.testBit i = true := by
  unfold inB
  rw [beq_iff_eq]
  constructor
  · intro h i hi
    have := congrArg (fun n => n.testBit i) h
    simp only [Nat.testBit_xor, Nat.testBit_and, Nat.zero_testBit, hi] at this
    simpa using this
  · intro h
    apply Nat.eq_of_testBit_eq
    intro i
    simp only [Nat.testBit_xor, Nat.testBit_and, Nat.zero_testBit]
    cases hi : a.testBit i
    · simp
    · simp [h i hi]
theorem withinN (a b : Nat) (ha : a < 4611686018427387904) (hb : b < 4611686018427387904) : (bits .andNot .i64 (a : Int) (b : Int) == 0) = inB a b := by
  rw [andNotN a b ha hb]
  unfold inB
  rw [Bool.eq_iff_iff, beq_iff_eq, beq_iff_eq]
  omega
/-- the members of a mask below a bound -/
def lowB (m i : Nat) : List Nat := (List.range i).filter (fun j => m.testBit j)
/-- numbers as integers -/
def zs (l : List Nat) : List Int := l.map Int.ofNat
theorem zs_length (l : List Nat) : (zs l).length = l.length := by simp [zs]
theorem zs_get (l : List Nat) (i : Nat) (h : i < (zs l).length) : (zs l)[i] = ((l[i]'(by simpa [zs] using h) : Nat) : Int) := by simp [zs]
theorem zs_snoc (l : List Nat) (x : Nat) : zs (l ++ [x]) = zs l ++ [(x : Int)] := by simp [zs]
theorem lowB_succ (m i : Nat) : lowB m (i + 1) = if m.testBit i then lowB m i ++ [i] else lowB m i := by
  unfold lowB
  rw [List.range_succ, List.filter_append]
  by_cases h : m.testBit i <;> simp [h]
theorem lowB_len (m : Nat) (i : Nat) : (lowB m i).length ≤ i := by
  unfold lowB
  exact Nat.le_trans (List.length_filter_le _ _) (by simp)
theorem lowB_more (m i : Nat) (h : m < 2 ^ i) : ∀ d, lowB m (i + d) = lowB m i
  | 0 => rfl
  | d + 1 => by
    rw [← Nat.add_assoc, lowB_succ, lowB_more m i h d]
    have : m.testBit (i + d) = false := Nat.testBit_lt_two_pow (Nat.lt_of_lt_of_le h (Nat.pow_le_pow_right (by omega) (by omega)))
    simp [this]
def memB (m : Nat) : List Nat := lowB m 8
theorem lowB_end (m i : Nat) (hm : m < 256) (hi : i ≤ 8) (h : m / 2 ^ i = 0) : lowB m i = memB m := by
  have h1 : m < 2 ^ i := by
    have hp : 0 < 2 ^ i := Nat.two_pow_pos i
    rcases Nat.lt_or_ge m (2 ^ i) with h' | h'
    · exact h'
    · have := Nat.div_pos h' hp; omega
  have := lowB_more m i h1 (8 - i)
  rw [show i + (8 - i) = 8 by omega] at this
  exact this.symm
theorem memB_mem {m x : Nat} (h : x ∈ memB m) : x < 8 ∧ m.testBit x = true := by
  simpa [memB, lowB] using h
theorem memB_lt {m n x : Nat} (hm : m < 2 ^ n) (h : x ∈ memB m) : x < n := by
  have h1 := (memB_mem h).2
  rcases Nat.lt_or_ge x n with h2 | h2
  · exact h2
  · rw [Nat.testBit_lt_two_pow (Nat.lt_of_lt_of_le hm (Nat.pow_le_pow_right (by omega) h2))] at h1; cases h1
theorem getD_get {b : List Nat} {i : Nat} (h : i < b.length) : b.getD i 0 = b[i] := by simp [List.getD_eq_getElem?_getD, h]
theorem Ints.zs_cell {w : World} {p : Option Addr} {n cap : Nat} {l : List Nat} (h : Ints w (.slice p n cap) (zs l)) (i : Nat) (hi : i < l.length) :
    ∃ b o, p = some ⟨b, o, none⟩ ∧ w.cell? ⟨b, o + i, none⟩ = some (.int .i64 ((l.getD i 0 : Nat) : Int)) := by
  obtain ⟨_, _, e, _, _, hat, _⟩ := h
  cases e
  obtain ⟨b, o, e, h1⟩ := hat.int i (by rw [zs_length]; exact hi)
  rw [zs_get, ← getD_get] at h1
  exact ⟨b, o, e, h1⟩
theorem two8 {n : Nat} (hn : n ≤ 8) : 2 ^ n ≤ 256 := Nat.pow_le_pow_right (by omega) hn
--
theorem hasB_any (m i : Nat) (w : World) (hm : m < 256) (hi : i ≤ 8) : Calls Try.prog 81 #[.int .i64 m, .int .i64 i] w fun e w' => e = .returned (.bool (m.testBit i)) ∧ w = w' := by
  go_enter Try.func81, Try.ntmps81
  go_wp2
  go_ret
  exact ⟨ret_bool (bitN m i (by omega)), rfl⟩
--
theorem l01BitB_any (m i : Nat) (w : World) (hm : m < 256) (hi : i ≤ 8) : Calls Try.prog 57 #[.int .i64 m, .int .i64 i] w fun e w' => e = .returned (.bool (m.testBit i)) ∧ w = w' := by
  go_enter Try.func57, Try.ntmps57
  go_wp2
  go_ret
  exact ⟨ret_bool (bitN m i (by omega)), rfl⟩
--
theorem withinB_any (a b : Nat) (w : World) (ha : a < 256) (hb : b < 256) : Calls Try.prog 83 #[.int .i64 a, .int .i64 b] w fun e w' => e = .returned (.bool (inB a b)) ∧ w = w' :=
  (within_any a b w).mono (by rintro e w' ⟨rfl, rfl⟩; exact ⟨ret_bool (withinN a b (by omega) (by omega)), rfl⟩)
--
set_option maxHeartbeats 1000000 in
theorem membersB_any (m : Nat) (w : World) (hm : m < 256) : Calls Try.prog 88 #[.int .i64 m] w (RetI w (zs (memB m))) := by
  go_enter Try.func88, Try.ntmps88
  go_wp2
  go_loopw [3, 4] (fun o i' wr => ∃ i : Nat, i ≤ 8 ∧ i' = .int .i64 i ∧ OwnI wr w.heap.size o (zs (lowB m i)) ∧ Keeps w wr) (fun _ i _ => 9 - (intOf i).toNat)
  case atStart => exact ⟨0, by omega, rfl, by simpa [lowB, zs] using OwnI.nil w w.heap.size, Keeps.refl w⟩
  case round =>
    obtain ⟨i, hi, rfl, hown, kw⟩ := hrel
    have hcast : (m : Int) / 2 ^ i = ((m / 2 ^ i : Nat) : Int) := by push_cast; rfl
    by_cases hp : 0 < m / 2 ^ i
    · have hi8 : i < 8 := by
        rcases Nat.lt_or_ge i 8 with h | h
        · exact h
        · obtain rfl : i = 8 := by omega
          omega
      have hd : decide ((m : Int) / 2 ^ i > 0) = true := by rw [hcast]; simp only [decide_eq_true_eq]; omega
      have hd' : (0 : Int) < (m : Int) / 2 ^ i := by rw [hcast]; omega
      have hls := lowB_succ m i
      have hll := lowB_len m i
      have hzl := zs_length (lowB m i)
      have HH := hid (hasB_any m i wr hm (by omega))
      have HLS := hid hls; clear hls
      clear hcast hp
      cases hb : m.testBit i
      · rw [hb] at HH HLS
        clear hb
        go_wp2_with fail
        refine HH.out.mono ?_; rintro e w' ⟨rfl, rfl⟩
        go_wp2_with fail
        go_roundw
        case rel => exact ⟨i + 1, by omega, by go_num, by have h := HLS.out; simp only [Bool.false_eq_true, if_false] at h; rw [h]; exact hown, kw⟩
        case measure => simp [intOf]; omega
      · rw [hb] at HH HLS
        clear hb
        go_wp2_with fail
        refine HH.out.mono ?_; rintro e w' ⟨rfl, rfl⟩
        go_wp2_with (at_builtin; refine appI rfl _ _ rfl w.heap.size _ (zs (lowB m i)) rfl (hown.keeps ((Keeps.refl wr).alloc _)) _ [(i : Int)] rfl (Ints.lit1 wr i) (by have := kw.size; simp; omega) (by simp; omega) ?_; intro v1 w1 hv1 hg1 hr1; have k2 := (kw.alloc (.cells #[.int .i64 i] 2)).grown hg1 (by simpa using hr1))
        go_roundw
        case rel => exact ⟨i + 1, by omega, by go_num, by have h := HLS.out; simp only [if_true] at h; rw [h, zs_snoc]; exact hv1, k2⟩
        case measure => simp [intOf]; omega
    · have hz : m / 2 ^ i = 0 := Nat.eq_zero_of_not_pos hp
      have hd : decide ((m : Int) / 2 ^ i > 0) = false := by rw [hcast, hz]; rfl
      have hd' : ¬ (0 : Int) < (m : Int) / 2 ^ i := by rw [hcast, hz]; simp
      have hle := lowB_end m i hm hi hz
      rw [hle] at hown
      clear hle hz hp hcast
      go_wp2
      go_ret
      exact ⟨_, rfl, hown, kw⟩
/-- what the members of a mask see -/
def imgL (b : List Nat) (m : Nat) : Nat → Nat
  | 0 => 0
  | k + 1 => if m.testBit k then imgL b m k ||| b.getD k 0 else imgL b m k
def foldB (b : List Nat) (l : List Nat) : Nat := l.foldl (fun acc i => acc ||| b.getD i 0) 0
theorem foldB_snoc (b l : List Nat) (x : Nat) : foldB b (l ++ [x]) = foldB b l ||| b.getD x 0 := by simp [foldB, List.foldl_append]
theorem foldB_low (b : List Nat) (m : Nat) : ∀ k, foldB b (lowB m k) = imgL b m k
  | 0 => rfl
  | k + 1 => by
    rw [lowB_succ, imgL]
    split
    · rw [foldB_snoc, foldB_low b m k]
    · exact foldB_low b m k
theorem imgL_more (b : List Nat) (m i : Nat) (h : m < 2 ^ i) (d : Nat) : imgL b m (i + d) = imgL b m i := by
  rw [← foldB_low, ← foldB_low, lowB_more m i h d]
def img (b : List Nat) (m : Nat) : Nat := imgL b m b.length
theorem foldB_mem (b : List Nat) (m : Nat) (hb : b.length ≤ 8) (hm : m < 2 ^ b.length) : foldB b (memB m) = img b m := by
  unfold memB img
  rw [foldB_low, show 8 = b.length + (8 - b.length) by omega, imgL_more b m _ hm]
theorem getD_lt {b : List Nat} {n : Nat} (h : ∀ x ∈ b, x < 2 ^ n) (i : Nat) : b.getD i 0 < 2 ^ n := by
  rw [List.getD_eq_getElem?_getD]
  by_cases hi : i < b.length
  · simp only [List.getElem?_eq_getElem hi, Option.getD_some]; exact h _ (List.getElem_mem hi)
  · simp only [List.getElem?_eq_none (Nat.le_of_not_lt hi), Option.getD_none]; exact Nat.two_pow_pos n
theorem foldB_lt {b : List Nat} {n : Nat} (h : ∀ x ∈ b, x < 2 ^ n) (l : List Nat) : foldB b l < 2 ^ n := by
  have : ∀ (l : List Nat) (acc : Nat), acc < 2 ^ n → l.foldl (fun acc i => acc ||| b.getD i 0) acc < 2 ^ n := by
    intro l
    induction l with
    | nil => intro acc h; exact h
    | cons x l ih => intro acc hacc; exact ih _ (Nat.or_lt_two_pow hacc (getD_lt h x))
  exact this l 0 (Nat.two_pow_pos n)
theorem imgL_lt {b : List Nat} {n : Nat} (h : ∀ x ∈ b, x < 2 ^ n) (m k : Nat) : imgL b m k < 2 ^ n := by rw [← foldB_low]; exact foldB_lt h _
theorem img_lt {b : List Nat} {n : Nat} (h : ∀ x ∈ b, x < 2 ^ n) (m : Nat) : img b m < 2 ^ n := imgL_lt h m _
--
set_option maxHeartbeats 1000000 in
theorem image_any (b : List Nat) (m : Nat) (v : Value) (w : World) (hv : Ints w v (zs b)) (hb : b.length ≤ 8) (hbm : ∀ x ∈ b, x < 2 ^ b.length) (hm : m < 2 ^ b.length) :
    Calls Try.prog 95 #[v, .int .i64 m] w fun e w' => e = .returned (.int .i64 (img b m)) ∧ Keeps w w' := by
  have hv0 := hv
  obtain ⟨p, cap, rfl, hle, hmx, _, _⟩ := hv
  unfold maxLen at hmx
  rw [zs_length] at *
  have h256 := two8 hb
  have HF := hid (foldB_mem b m hb hm)
  have HM := hid (fun w2 => membersB_any m w2 (Nat.lt_of_lt_of_le hm h256))
  have HB := hid (fun x (h : x ∈ memB m) => memB_lt hm h)
  have hml : (memB m).length ≤ 8 := lowB_len m 8
  have HL := hid (foldB_lt (b := b) hbm)
  have HG := hid (getD_lt (b := b) hbm)
  clear hm hbm
  go_enter Try.func95, Try.ntmps95
  go_wp2_with fail
  refine (HM.out _).mono ?_; rintro e w2 ⟨v2, rfl, hv2, k2⟩
  have hv2i := hv2.ints (by rw [zs_length]; omega)
  obtain ⟨p2, c2, rfl, hl2, hm2, _, _⟩ := hv2.ints (by rw [zs_length]; omega)
  unfold maxLen at hm2
  rw [zs_length] at *
  generalize memB m = l at *
  have hv1 := hv0.keeps k2
  clear HM hv0
  go_wp2
  go_loop [5, 11] (fun o i' => ∃ i : Nat, i ≤ l.length ∧ i' = .int .i64 i ∧ o = .int .i64 (foldB b (l.take i))) (fun _ i => l.length - (intOf i).toNat)
  case atStart => exact ⟨0, by omega, rfl, rfl⟩
  case round =>
    obtain ⟨i, hi, rfl, rfl⟩ := hrel
    by_cases hlt : i < l.length
    · obtain ⟨b1, o1, rfl, h1⟩ := hv2i.zs_cell i hlt
      rw [getD_get hlt] at h1
      have hx := HB.out l[i] (List.getElem_mem hlt)
      obtain ⟨b2, o2, rfl, h2⟩ := hv1.zs_cell l[i] hx
      rw [getD_get hx] at h2
      have hst : foldB b (l.take (i + 1)) = foldB b (l.take i) ||| b[l[i]] := by
        rw [List.take_succ_eq_append_getElem hlt, foldB_snoc, getD_get hx]
      have hor := orN (foldB b (l.take i)) b[l[i]] (Nat.lt_of_lt_of_le (HL.out _) (by omega)) (by rw [← getD_get hx]; exact Nat.lt_of_lt_of_le (HG.out _) (by omega))
      rw [← hst] at hor
      have hlt' : (i : Int) < l.length := by omega
      have hx' : ((l[i] : Nat) : Int) < b.length := by omega
      have HO := hid hor; clear hor
      clear hst
      generalize l[i] = x at *
      generalize b[x] = y at *
      generalize foldB b (l.take i) = z at *
      go_wp2
      go_round
      case rel => exact ⟨i + 1, by omega, by go_num, by rw [HO.out]⟩
      case measure => simp [intOf]; omega
    · have hlt' : ¬ (i : Int) < l.length := by omega
      rw [List.take_of_length_le (by omega)]
      rw [HF.out]
      go_wp2
      go_ret
      exact ⟨rfl, k2⟩
--
set_option maxHeartbeats 1000000 in
theorem l01Image_any (b : List Nat) (m : Nat) (v : Value) (w : World) (hv : Ints w v (zs b)) (hb : b.length ≤ 8) (hbm : ∀ x ∈ b, x < 2 ^ b.length) (hm : m < 2 ^ b.length) :
    Calls Try.prog 58 #[v, .int .i64 m] w fun e w' => e = .returned (.int .i64 (img b m)) ∧ w = w' := by
  obtain ⟨p, cap, rfl, hle, hmx, hat, _⟩ := hv
  unfold maxLen at hmx
  rw [zs_length] at *
  have h256 := two8 hb
  have hm256 := Nat.lt_of_lt_of_le hm h256
  have HB := hid (fun i w2 (hi : i ≤ 8) => l01BitB_any m i w2 hm256 hi)
  have HL := hid (fun k => imgL_lt (b := b) hbm m k)
  have HG := hid (getD_lt (b := b) hbm)
  clear hm hbm
  go_enter Try.func58, Try.ntmps58
  go_wp2
  go_loop [5, 6] (fun o i' => ∃ i : Nat, i ≤ b.length ∧ i' = .int .i64 i ∧ o = .int .i64 (imgL b m i)) (fun _ i => b.length - (intOf i).toNat)
  case atStart => exact ⟨0, by omega, rfl, rfl⟩
  case round =>
    obtain ⟨i, hi, rfl, rfl⟩ := hrel
    by_cases hlt : i < b.length
    · obtain ⟨b2, o2, rfl, h2⟩ := hat.int i (by rw [zs_length]; exact hlt)
      rw [zs_get] at h2
      have hst : imgL b m (i + 1) = if m.testBit i then imgL b m i ||| b.getD i 0 else imgL b m i := rfl
      rw [getD_get hlt] at hst
      have hor := orN (imgL b m i) b[i] (Nat.lt_of_lt_of_le (HL.out _) (by omega)) (by rw [← getD_get hlt]; exact Nat.lt_of_lt_of_le (HG.out _) (by omega))
      have hlt' : (i : Int) < b.length := by omega
      have HH := hid (HB.out i w (by omega))
      have HO := hid hor; clear hor
      have HS := hid hst; clear hst
      clear hat
      generalize b[i] = y at *
      cases hbit : m.testBit i
      · rw [hbit] at HH HS
        clear hbit
        go_wp2_with fail
        refine HH.out.mono ?_; rintro e w' ⟨rfl, rfl⟩
        go_wp2_with fail
        go_round
        case rel => exact ⟨i + 1, by omega, by go_num, by have h := HS.out; simp only [Bool.false_eq_true, if_false] at h; rw [h]⟩
        case measure => simp [intOf]; omega
      · rw [hbit] at HH HS
        clear hbit
        go_wp2_with fail
        refine HH.out.mono ?_; rintro e w' ⟨rfl, rfl⟩
        go_wp2_with fail
        go_round
        case rel => exact ⟨i + 1, by omega, by go_num, by have h := HS.out; simp only [if_true] at h; rw [h, HO.out]⟩
        case measure => simp [intOf]; omega
    · have hlt' : ¬ (i : Int) < b.length := by omega
      obtain rfl : i = b.length := by omega
      go_wp2
      go_ret
      exact ⟨rfl, rfl⟩
end Go.Proofs.Ytolepbiepebclaa
