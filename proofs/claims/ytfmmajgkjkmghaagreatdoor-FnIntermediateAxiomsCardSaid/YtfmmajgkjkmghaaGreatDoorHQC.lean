import Derived.Test.YtfmmajgkjkmghaaGreatDoorHPP
/- Relations: lists of masks, on both sides; the library's IndexFunc, ContainsFunc, Clone and Equal at []int64. -/
namespace Go.Proofs.YtfmmajgkjkmghaaGreatDoor
open Go.RowKit
def isM (n : Nat) (x : Int) : Bool := inR x 0 ((2 : Int) ^ n - 1)
theorem isM_iff (n : Nat) (x : Int) : isM n x = true ↔ ∃ k : Nat, x = k ∧ k < 2 ^ n := by
 unfold isM inR
 rw [decide_eq_true_eq]
 have hp : (2 : Int) ^ n = ((2 ^ n : Nat) : Int) := by push_cast; rfl
 rw [hp]
 constructor
 ·rintro ⟨h1, h2⟩
  obtain ⟨k, rfl⟩ := Int.eq_ofNat_of_zero_le h1
  exact ⟨k, rfl, by omega⟩
 ·rintro ⟨k, rfl, h⟩
  omega
theorem all_isM {n : Nat} {a : List Int} (h : a.all (isM n) = true) : ∃ b : List Nat, a = zs b ∧ ∀ x ∈ b, x < 2 ^ n := by
 induction a with
 | nil => exact ⟨[], rfl, by simp⟩
 | cons x a ih =>
  rw [List.all_cons, Bool.and_eq_true] at h
  obtain ⟨b, e1, h1⟩ := ih h.2
  obtain ⟨k, e, hk⟩ := (isM_iff n x).1 h.1
  refine ⟨k :: b, by rw [e1, e]; rfl, ?_⟩
  intro y hy
  rcases List.mem_cons.1 hy with rfl | hy
  ·exact hk
  ·exact h1 y hy
theorem isM_all {n : Nat} {b : List Nat} (h : ∀ x ∈ b, x < 2 ^ n) : (zs b).all (isM n) = true := by
 rw [List.all_eq_true]
 intro x hx
 simp only [zs, List.mem_map] at hx
 obtain ⟨y, hy, rfl⟩ := hx
 exact (isM_iff n _).2 ⟨y, rfl, h y hy⟩
theorem pow63 (n : Nat) (h : n ≤ 62) : IntKind.i64.wrap ((2 : Int) ^ n) = 2 ^ n ∧ IntKind.i64.wrap ((2 : Int) ^ n - 1) = 2 ^ n - 1 := by
 have : ∀ j : Fin 63, IntKind.i64.wrap ((2 : Int) ^ (j : Nat)) = (2 : Int) ^ (j : Nat) ∧ IntKind.i64.wrap ((2 : Int) ^ (j : Nat) - 1) = (2 : Int) ^ (j : Nat) - 1 := by decide +kernel
 exact this ⟨n, by omega⟩
theorem isMask_any (n : Nat) (x : Int) (w : World) (hn : n ≤ 8) : Calls Tryz.prog 93 #[.int .i64 n, .int .i64 x] w fun e w' => e = .returned (.bool (isM n x)) ∧ w = w' := by
 have hin : inR (n : Int) 0 30 = true := by simp [inR]; omega
 obtain ⟨e1, e2⟩ := pow63 n (by omega)
 have H1 := hid (fun w2 => inRange_any (n : Int) 0 30 w2)
 have H2 := hid (fun w2 => inRange_any x 0 ((2 : Int) ^ n - 1) w2)
 have hx : isM n x = inR x 0 ((2 : Int) ^ n - 1) := rfl
 rw [hin] at H1
 go_enter Tryz.func93, Tryz.ntmps93
 go_wp2_with fail
 refine (H1.out _).mono ?_; rintro e w2 ⟨rfl, rfl⟩
 go_wp2_with fail
 refine (H2.out _).mono ?_; rintro e w2 ⟨rfl, rfl⟩
 go_wp2_with fail
 go_ret
 exact ⟨by rw [hx]; rfl, rfl⟩
set_option maxHeartbeats 400000 in
theorem l01Masks_any (n : Nat) (a : List Int) (v : Value) (w : World) (hn : n ≤ 8) (hv : Ints w v a) : Calls Tryz.prog 118 #[.int .i64 n, v] w fun e w' => e = .returned (.bool (a.all (isM n))) ∧ Keeps w w' := by
 have hv0 := hv
 obtain ⟨p, cap, rfl, hle, hmx, _, hlen⟩ := hv
 unfold maxLen at hmx
 have H1 := hid (fun w2 => l01Full_any (n : Int) w2 (by omega) (by omega))
 simp only [Int.toNat_natCast] at H1
 have hx : ∀ x, isM n x = inR x 0 ((2 : Int) ^ n - 1) := fun _ => rfl
 have HX := hid hx; clear hx
 generalize (2 : Int) ^ n - 1 = P at *
 go_enter Tryz.func118, Tryz.ntmps118
 go_wp2
 go_loopw [4, 5] (fun r i' wr => ∃ i : Nat, i ≤ a.length ∧ i' = .int .i64 i ∧ r = .bool false ∧ (∀ j (h : j < a.length), j < i → isM n a[j] = true) ∧ Keeps w wr) (fun _ i _ => a.length - (intOf i).toNat)
 case atStart => exact ⟨0, by omega, rfl, rfl, fun j _ h => by omega, Keeps.refl _⟩
 case round =>
  obtain ⟨i, hi, rfl, rfl, hall, kw⟩ := hrel
  have HA := hid hall; clear hall
  by_cases hlt : i < a.length
  ·have hlt' : (i : Int) < a.length := by omega
   obtain ⟨_, _, e1, _, _, hat, _⟩ := hv0.keeps kw
   cases e1
   obtain ⟨b1, o1, rfl, h1⟩ := hat.int i hlt
   clear hat hv0
   have H2 := hid (fun w2 => l01In_any a[i] 0 P w2)
   cases hb : isM n a[i]
   all_goals
    have hb' := hb
    rw [HX.out] at hb
    rw [hb] at H2
    have HB := hid hb'; clear hb hb'
    go_wp2_with fail
    go_quiet (first | (go_at_call 40; refine quietS (H1.out _)) | (go_at_call 117; refine quietS (H2.out _)))
    go_wp2
   ·go_ret
    refine ⟨ret_bool ?_, kw.drewN _⟩
    symm
    rw [Bool.eq_false_iff]
    intro h
    have := List.all_eq_true.1 h a[i] (List.getElem_mem hlt)
    rw [HB.out] at this; cases this
   ·go_roundw
    case rel => exact ⟨i + 1, by omega, by go_num, rfl, fun j h hj => by
     by_cases e : j = i
     ·subst e; exact HB.out
     ·exact HA.out j h (by omega), kw.drewN _⟩
    case measure => simp [intOf]; omega
  ·have hlt' : ¬ (i : Int) < a.length := by omega
   go_wp2
   go_ret
   refine ⟨ret_bool ?_, kw⟩
   symm
   rw [List.all_eq_true]
   intro x hx
   obtain ⟨j, hj, rfl⟩ := List.getElem_of_mem hx
   exact HA.out j hj (by omega)
set_option maxHeartbeats 400000 in
theorem indexFuncI (pr : Int → Bool) (f : FuncId) (cp : Array Value) (a : List Int) (v : Value) (w : World) (hv : Ints w v a) (hcf : Enters f)
  (hf : ∀ x w1, x ∈ a → Keeps w w1 → Calls Tryz.prog f (#[.int .i64 x] ++ cp) w1 fun e w2 => e = .returned (.bool (pr x)) ∧ Keeps w1 w2) :
  Calls Tryz.prog 111 #[v, .func (.func f) #[] cp] w fun e w' => e = .returned (.int .i64 (idxOf pr a 0)) ∧ Keeps w w' := by
 have hv0 := hv
 obtain ⟨p, cap, rfl, hle, hmx, _, hlen⟩ := hv
 unfold maxLen at hmx
 have HF := hid hf; clear hf
 have hcf' : ∀ args w, (callFunc f args).run Tryz.prog w = .ok (.enter f args) w := hcf
 clear hcf
 go_enter Tryz.func111, Tryz.ntmps111
 go_wp2
 go_loopw [4, 8] (fun r i' wr => ∃ k : Nat, k ≤ a.length ∧ idxOf pr a 0 = idxOf pr (a.drop k) k ∧ Keeps w wr ∧ i' = .int .i64 k ∧ r = .int .i64 0) (fun _ i _ => a.length - (intOf i).toNat)
 case atStart => exact ⟨0, by omega, by simp, Keeps.refl w, rfl, rfl⟩
 case round =>
  obtain ⟨k, hk, hs, kw, rfl, rfl⟩ := hrel
  have Hs := hid hs; clear hs
  by_cases hlt : k < a.length
  ·have hlt' : (k : Int) < a.length := by omega
   obtain ⟨_, _, e1, _, _, hat, _⟩ := hv0.keeps kw
   cases e1
   obtain ⟨b, off, rfl, h1⟩ := hat.int k hlt
   have hd := hid (idxOf_drop pr a k hlt)
   clear hv0 hat
   cases hp : pr a[k]
   all_goals
    have Hp := hid hp; clear hp
    go_wp2_with ((with_reducible refine (HF.out a[k] wr (List.getElem_mem hlt) kw).mono ?_); rintro e w2 ⟨rfl, k2⟩; rw [Hp.out])
   ·go_roundw
    case rel => exact ⟨k + 1, by omega, by rw [Hs.out, hd.out, Hp.out]; rfl, kw.trans k2, by go_num, rfl⟩
    case measure => simp [intOf]; omega
   ·go_ret
    exact ⟨ret_int (by rw [Hs.out, hd.out, Hp.out]; rfl), kw.trans k2⟩
  ·have hlt' : ¬ (k : Int) < a.length := by omega
   go_wp2
   go_ret
   exact ⟨ret_int (by rw [Hs.out, idxOf_end _ _ _ (by omega)]), kw⟩
theorem containsFuncI (pr : Int → Bool) (f : FuncId) (cp : Array Value) (a : List Int) (v : Value) (w : World) (hv : Ints w v a) (hcf : Enters f)
  (hf : ∀ x w1, x ∈ a → Keeps w w1 → Calls Tryz.prog f (#[.int .i64 x] ++ cp) w1 fun e w2 => e = .returned (.bool (pr x)) ∧ Keeps w1 w2) :
  Calls Tryz.prog 47 #[v, .func (.func f) #[] cp] w fun e w' => e = .returned (.bool (a.any pr)) ∧ Keeps w w' := by
 have H := hid (indexFuncI pr f cp a v w hv hcf hf)
 clear hv hf hcf
 have he := hid (idxOf_any pr a 0)
 go_enter Tryz.func47, Tryz.ntmps47
 go_wp2_with (go_at_call 111; refine H.out.mono ?_; rintro e w2 ⟨rfl, k2⟩)
 go_ret
 exact ⟨ret_bool he.out, k2⟩
theorem sizeI_any (a : List Int) (v : Value) (w : World) (hv : Ints w v a) : Calls Tryz.prog 43 #[v] w fun e w' => e = .returned (.int .i64 a.length) ∧ w = w' := by
 obtain ⟨p, cap, rfl, hle, hmx, _, hlen⟩ := hv
 unfold maxLen at hmx
 go_enter Tryz.func43, Tryz.ntmps43
 go_wp2
 go_ret
 exact ⟨rfl, rfl⟩
theorem isRelation_1_any (x : Int) (a : List Int) (B : Nat) (v : Value) (w : World) (hv : Ints w v a) (hl : a.length ≤ 8) (hc : w.cell? ⟨B, 0, none⟩ = some v) :
  Calls Tryz.prog 92 #[.int .i64 x, .pointer (some ⟨B, 0, none⟩)] w fun e w' => e = .returned (.bool (!isM a.length x)) ∧ Keeps w w' := by
 have H1 := hid (sizeI_any a v w hv)
 have H2 := hid (isMask_any a.length x w hl)
 obtain ⟨p, cap, rfl, hle, hmx, _, hlen⟩ := hv
 go_enter Tryz.func92, Tryz.ntmps92
 go_wp2_with fail
 refine H1.out.mono ?_; rintro e w2 ⟨rfl, rfl⟩
 go_wp2_with fail
 refine H2.out.mono ?_; rintro e w2 ⟨rfl, rfl⟩
 go_wp2_with fail
 go_ret
 exact ⟨rfl, Keeps.refl _⟩
theorem enters_isRelation_1 : Enters 92 := fun _ _ => by kernel_rfl
theorem isRelation_any (a : List Int) (v : Value) (w : World) (hv : Ints w v a) (hl : a.length ≤ 8) : Calls Tryz.prog 44 #[v] w fun e w' => e = .returned (.bool (a.all (isM a.length))) ∧ Keeps w w' := by
 have kA := (Keeps.refl w).alloc (.cells #[v] 24)
 have hc : (w.alloc (.cells #[v] 24)).cell? ⟨w.heap.size, 0, none⟩ = some v := by simp
 have hva := hv.keeps kA
 have HC := hid (containsFuncI (fun x => !isM a.length x) 92 #[.pointer (some ⟨w.heap.size, 0, none⟩)] a v (w.alloc (.cells #[v] 24)) hva enters_isRelation_1 (fun x w1 _ k1 => isRelation_1_any x a w.heap.size v w1 (hva.keeps k1) hl (k1.cell hc)))
 have he : (!(a.any fun x => !isM a.length x)) = a.all (isM a.length) := by rw [List.all_eq_not_any_not]
 have HE := hid he; clear he
 clear hc hva
 obtain ⟨p, cap, rfl, hle, hmx, _, hlen⟩ := hv
 go_enter Tryz.func44, Tryz.ntmps44
 go_wp2_with fail
 refine HC.out.mono ?_; rintro e w2 ⟨rfl, k2⟩
 go_wp2_with fail
 go_ret
 exact ⟨by rw [HE.out]; rfl, kA.trans k2⟩
theorem cloneI_any (a : List Int) (v : Value) (w : World) (hv : Ints w v a) : Calls Tryz.prog 73 #[v] w (RetI w a) := by
 have hv0 := hv
 obtain ⟨p, cap, rfl, hle, hmx, hat, hlen⟩ := hv
 have h1 := OwnI.empty w
 have k1 := (Keeps.refl w).alloc (.cells #[] 2)
 cases p with
 | none =>
  have ha : a = [] := by
   cases a with
   | nil => rfl
   | cons x r => obtain ⟨b, o, h, _⟩ := hat.int 0 (by simp); cases h
  subst ha
  have he : (binOp .eql 24 (.slice none 0 cap) (.slice none 0 0)).run Tryz.prog w = .ok (.bool true) w := by kernel_rfl
  rw [List.length_nil] at *
  go_enter Tryz.func73, Tryz.ntmps73
  go_wp2
  go_ret
  exact ⟨_, rfl, OwnI.nil _ _, Keeps.refl _⟩
 | some ad =>
  have hv1 := hv0.keeps k1
  obtain ⟨b, off, ra⟩ := ad
  have he : (binOp .eql 24 (.slice (some ⟨b, off, ra⟩) a.length cap) (.slice none 0 0)).run Tryz.prog w = .ok (.bool false) w := by kernel_rfl
  clear hat
  go_enter Tryz.func73, Tryz.ntmps73
  go_wp2_with (at_builtin; refine appI rfl _ _ rfl w.heap.size _ [] rfl h1 _ a rfl hv1 (by simp) (by simpa using hlen) ?_; intro v1 w1 hv1 hg1 hr1; have k2 : Keeps w w1 := k1.grown hg1 hr1)
  go_ret
  exact ⟨_, rfl, by simpa using hv1, k2⟩
set_option maxHeartbeats 400000 in
theorem equalI_any (a b : List Int) (va vb : Value) (w : World) (hva : Ints w va a) (hvb : Ints w vb b) :
  Calls Tryz.prog 99 #[va, vb] w fun e w' => e = .returned (.bool (decide (a = b))) ∧ Keeps w w' := by
 have hva0 := hva
 have hvb0 := hvb
 obtain ⟨pa, ca, rfl, hlea, hmxa, _, hlena⟩ := hva
 obtain ⟨pb, cb, rfl, hleb, hmxb, _, hlenb⟩ := hvb
 unfold maxLen at hmxa hmxb
 by_cases hl : a.length = b.length
 ·have hl' : ((a.length : Int) != (b.length : Int)) = false := by simp [hl]
  have HL := hid hl; clear hl
  go_enter Tryz.func99, Tryz.ntmps99
  go_wp2
  go_loopw [4, 13] (fun r i' wr => ∃ k : Nat, k ≤ a.length ∧ a.take k = b.take k ∧ Keeps w wr ∧ i' = .int .i64 k ∧ r = .bool false) (fun _ i _ => a.length - (intOf i).toNat)
  case atStart => exact ⟨0, by omega, rfl, Keeps.refl w, rfl, rfl⟩
  case round =>
   obtain ⟨k, hk, htk, kw, rfl, rfl⟩ := hrel
   have HT := hid htk; clear htk
   clear hl'
   by_cases hlt : k < a.length
   ·have hltb : k < b.length := by have := HL.out; omega
    obtain ⟨_, _, e1, _, _, hata, _⟩ := hva0.keeps kw
    obtain ⟨_, _, e2, _, _, hatb, _⟩ := hvb0.keeps kw
    cases e1; cases e2
    obtain ⟨b1, o1, rfl, h1⟩ := hata.int k hlt
    obtain ⟨b2, o2, rfl, h3⟩ := hatb.int k hltb
    clear hata hatb hva0 hvb0
    have hlt' : (k : Int) < a.length := by omega
    have hltb' : (k : Int) < b.length := by omega
    by_cases he : a[k] = b[k]
    ·have hd : (a[k] != b[k]) = false := by simp [he]
     have HE := hid he; clear he
     go_wp2_with fail
     go_quiet (fail)
     go_wp2
     go_roundw
     case rel => exact ⟨k + 1, by omega, by rw [List.take_succ_eq_append_getElem hlt, List.take_succ_eq_append_getElem hltb, HT.out, HE.out], kw.drewN _, by go_num, rfl⟩
     case measure => simp [intOf]; omega
    ·have hd : (a[k] != b[k]) = true := by simp [he]
     have HE := hid he; clear he
     go_wp2_with fail
     go_quiet (fail)
     go_wp2
     go_ret
     refine ⟨ret_bool ?_, kw.drewN _⟩
     symm; rw [decide_eq_false_iff_not]
     rintro rfl; exact HE.out rfl
   ·have hlt' : ¬ (k : Int) < a.length := by omega
    go_wp2
    go_ret
    refine ⟨ret_bool ?_, kw⟩
    symm; rw [decide_eq_true_eq]
    have h1 := HL.out; have h2 := HT.out
    rw [List.take_of_length_le (by omega), List.take_of_length_le (by omega)] at h2
    exact h2
 ·have hl' : ((a.length : Int) != (b.length : Int)) = true := by simp; omega
  have HL := hid hl; clear hl
  go_enter Tryz.func99, Tryz.ntmps99
  go_wp2
  go_ret
  refine ⟨ret_bool ?_, Keeps.refl _⟩
  symm; rw [decide_eq_false_iff_not]
  rintro rfl; exact HL.out rfl
end Go.Proofs.YtfmmajgkjkmghaaGreatDoor
namespace Go.Proofs.YtfmmajgkjkmghaaGreatDoor
open Go.RowKit
theorem zs_set (a : List Nat) (i x : Nat) : zs (a.set i x) = (zs a).set i (x : Int) := by simp [zs, List.map_set]
theorem getD_set (a : List Nat) (i j x : Nat) (hi : i < a.length) : (a.set i x).getD j 0 = if i = j then x else a.getD j 0 := by
 by_cases h : i = j
 ·subst h; simp [List.getD_eq_getElem?_getD, hi]
 ·simp [List.getD_eq_getElem?_getD, h]
def Bnd (n : Nat) (a : List Nat) : Prop := ∀ i, a.getD i 0 < 2 ^ n
theorem wStep_bnd {n : Nat} {a : List Nat} (h : Bnd n a) (j i : Nat) : Bnd n (wStep a j i) := by
 unfold wStep
 split
 ·intro k
  by_cases hi : i < a.length
  ·rw [getD_set _ _ _ _ hi]
   split
   ·exact Nat.or_lt_two_pow (h i) (h j)
   ·exact h k
  ·rw [List.set_eq_of_length_le (by omega)]; exact h k
 ·exact h
theorem wRow_bnd {n : Nat} {a : List Nat} (h : Bnd n a) (j : Nat) : ∀ i, Bnd n (wRow a j i)
 | 0 => h
 | i + 1 => wStep_bnd (wRow_bnd h j i) j i
theorem wAll_bnd {n : Nat} {a : List Nat} (h : Bnd n a) (m : Nat) : ∀ j, Bnd n (wAll a m j)
 | 0 => h
 | j + 1 => wRow_bnd (wAll_bnd h m j) j m
theorem wRow_len (a : List Nat) (j i : Nat) : (wRow a j i).length = a.length := (wRow_le a j i).1.symm
theorem wAll_len (a : List Nat) (m j : Nat) : (wAll a m j).length = a.length := (wAll_le a m j).1.symm
set_option maxHeartbeats 1000000 in
theorem transitive_any (b : List Nat) (v : Value) (w : World) (hv : Ints w v (zs b)) (hb : b.length ≤ 8) (hbm : Bnd b.length b) :
  Calls Tryz.prog 100 #[v] w (RetI w (zs (wAll b b.length b.length))) := by
 rcases Nat.eq_zero_or_pos b.length with hz | hpos
 ·obtain rfl : b = [] := List.length_eq_zero_iff.1 hz
  have HC := hid (cloneI_any (zs []) v w hv)
  obtain ⟨p, cap, rfl, _⟩ := hv
  simp only [zs, List.map_nil, List.length_nil] at *
  go_enter Tryz.func100, Tryz.ntmps100
  go_wp2_with fail
  refine HC.out.mono ?_; rintro e w1 ⟨v1, rfl, hown, k1⟩
  obtain ⟨p1, c1, rfl, _, hmx, _, _⟩ := hown.ints (by simp)
  unfold maxLen at hmx
  simp only [List.length_nil] at *
  go_wp2
  go_loop [10] (fun j' => j' = .int .i64 0) (fun _ => 0)
  case atStart => rfl
  case round =>
   subst hrel
   go_wp2
   go_ret
   exact ⟨_, rfl, hown, k1⟩
 ·have HC := hid (cloneI_any (zs b) v w hv)
  have h256 := two8 hb
  obtain ⟨p, cap, rfl, _⟩ := hv
  go_enter Tryz.func100, Tryz.ntmps100
  go_wp2_with fail
  refine HC.out.mono ?_; rintro e w1 ⟨v1, rfl, hown, k1⟩
  obtain ⟨g, c1, rfl, hg, _, _, hmx⟩ := hown.shape (by rw [zs_length]; omega)
  unfold maxLen at hmx
  rw [zs_length] at *
  generalize hn : b.length = n at *
  go_wp2
  go_loopw [10] (fun j' wr => ∃ j : Nat, j ≤ n ∧ j' = .int .i64 j ∧ OwnI wr w.heap.size (.slice (some ⟨g, 0, none⟩) n c1) (zs (wAll b n j)) ∧ Keeps w wr) (fun j' _ => n - (intOf j').toNat)
  case atStart => exact ⟨0, by omega, rfl, hown, k1⟩
  case round =>
   obtain ⟨j, hj, rfl, hownj, kw⟩ := hrel
   clear hown k1
   by_cases hlt : j < n
   ·have hlt' : (j : Int) < n := by omega
    have HO := hid hownj; clear hownj
    have KW := hid kw; clear kw
    have HB := hid (wAll_bnd hbm n j)
    have hs : wAll b n (j + 1) = wRow (wAll b n j) j n := rfl
    have hlen : (wAll b n j).length = n := by rw [wAll_len]; exact hn
    have HS := hid hs; clear hs
    generalize wAll b n j = a at *
    go_wp2_with fail
    go_loopw [15] (fun i' wr' => ∃ i : Nat, i ≤ n ∧ i' = .int .i64 i ∧ OwnI wr' w.heap.size (.slice (some ⟨g, 0, none⟩) n c1) (zs (wRow a j i)) ∧ Keeps w wr') (fun i' _ => n - (intOf i').toNat)
    case atStart => exact ⟨0, by omega, rfl, HO.out, KW.out⟩
    case round =>
     obtain ⟨i, hi, rfl, hown, kw⟩ := hrel
     clear HO KW
     by_cases hit : i < n
     ·have hit' : (i : Int) < n := by omega
      have HBi := hid (wRow_bnd HB.out j i)
      have hli : (wRow a j i).length = n := by rw [wRow_len]; exact hlen
      have hs2 : wRow a j (i + 1) = wStep (wRow a j i) j i := rfl
      unfold wStep at hs2
      have HS2 := hid hs2; clear hs2
      generalize wRow a j i = r at *
      obtain ⟨ci, fi⟩ := hown.cell i (by rw [zs_length]; omega)
      obtain ⟨cj, fj⟩ := hown.cell j (by rw [zs_length]; omega)
      rw [zs_get] at ci cj
      rw [← getD_get] at ci cj
      have bi := HBi.out i
      have bj := HBi.out j
      have HH := hid (hasB_any (r.getD i 0) j wr (by omega) (by omega))
      have hst := OwnI.store (hown.keeps (Keeps.refl wr).drew) i (by rw [zs_length]; omega) ((r.getD i 0 ||| r.getD j 0 : Nat) : Int)
      rw [← zs_set] at hst
      have hor := orN (r.getD i 0) (r.getD j 0) (by omega) (by omega)
      cases hbit : (r.getD i 0).testBit j
      ·rw [hbit] at HH HS2
       rw [if_neg (by simp)] at HS2
       clear hst hbit cj hor
       have HO := hid hown; clear hown
       generalize r.getD i 0 = x at *
       go_wp2_with fail
       refine HH.out.mono ?_; rintro e w' ⟨rfl, rfl⟩
       go_wp2_with fail
       go_roundw
       case rel => exact ⟨i + 1, by omega, by go_num, by rw [HS2.out]; exact HO.out, kw⟩
       case measure => simp [intOf]; omega
      ·rw [hbit] at HH HS2
       rw [if_pos rfl] at HS2
       clear hbit hown
       have HST := hid hst; clear hst
       have KW := hid kw; clear kw
       generalize hx : r.getD i 0 = x at *
       generalize hy : r.getD j 0 = y at *
       go_wp2_with fail
       refine HH.out.mono ?_; rintro e w' ⟨rfl, rfl⟩
       go_wp2_with fail
       go_region
       go_wp2
       go_roundw
       case rel => exact ⟨i + 1, by omega, by go_num, by first | (rw [HS2.out, hor]; exact HST.out.1) | (rw [HS2.out]; exact HST.out.1), by first | (rw [hor]; exact (Keeps.drew KW.out).grown HST.out.2 (fun k hk => by cases hk; exact hg)) | exact (Keeps.drew KW.out).grown HST.out.2 (fun k hk => by cases hk; exact hg)⟩
       case measure => simp [intOf]; omega
     ·obtain rfl : i = n := by omega
      have hit' : ¬ (i : Int) < i := by omega
      go_wp2_with fail
      go_roundw
      case rel => exact ⟨j + 1, by omega, by go_num, by rw [HS.out]; exact hown, kw⟩
      case measure => simp [intOf]; omega
   ·obtain rfl : j = n := by omega
    have hlt' : ¬ (j : Int) < j := by omega
    go_wp2_with fail
    go_ret
    exact ⟨_, rfl, hownj, kw⟩
def colB (b : List Nat) (j : Nat) : Nat → Nat
 | 0 => 0
 | i + 1 => if (b.getD i 0).testBit j then colB b j i ||| 2 ^ i else colB b j i
theorem colB_bit (b : List Nat) (j : Nat) : ∀ i x, (colB b j i).testBit x = (decide (x < i) && (b.getD x 0).testBit j)
 | 0, x => by simp [colB]
 | i + 1, x => by
  have ih := colB_bit b j i x
  unfold colB
  split
  ·rename_i h
   rw [Nat.testBit_or, ih, Nat.testBit_two_pow]
   by_cases e : i = x
   ·subst e; simp only [h, decide_true, Bool.or_true, Bool.and_true]; simp
   ·rw [show decide (i = x) = false from decide_eq_false e, Bool.or_false]
    congr 1
    by_cases h1 : x < i
    ·simp [h1, Nat.lt_succ_of_lt h1]
    ·simp [h1, show ¬ x < i + 1 by omega]
  ·rename_i h
   rw [ih]
   by_cases e : i = x
   ·subst e
    have h' : (b.getD i 0).testBit j = false := by simpa using h
    rw [h']; simp
   ·congr 1
    by_cases h1 : x < i
    ·simp [h1, Nat.lt_succ_of_lt h1]
    ·simp [h1, show ¬ x < i + 1 by omega]
theorem colB_lt (b : List Nat) (j : Nat) : ∀ i, colB b j i < 2 ^ i
 | 0 => by simp [colB]
 | i + 1 => by
  have h := colB_lt b j i
  have h2 : 2 ^ i < 2 ^ (i + 1) := Nat.pow_lt_pow_right (by omega) (by omega)
  unfold colB
  split
  ·exact Nat.or_lt_two_pow (by omega) h2
  ·omega
def midS (b : List Nat) (n i : Nat) (l : List Nat) : List Nat := (List.range n).map fun j => if l.contains j then colB b j i ||| 2 ^ i else colB b j i
theorem midS_length (b : List Nat) (n i : Nat) (l : List Nat) : (midS b n i l).length = n := by simp [midS]
theorem midS_get (b : List Nat) (n i : Nat) (l : List Nat) (j : Nat) (h : j < n) : (midS b n i l).getD j 0 = if l.contains j then colB b j i ||| 2 ^ i else colB b j i := by
 simp [midS, List.getD_eq_getElem?_getD, h]
theorem or_same (a b : Nat) : (a ||| b) ||| b = a ||| b := by rw [Nat.or_assoc, Nat.or_self]
theorem midS_step (b : List Nat) (n i : Nat) (l : List Nat) (x : Nat) (h : x < n) : (midS b n i l).set x ((midS b n i l).getD x 0 ||| 2 ^ i) = midS b n i (l ++ [x]) := by
 rw [midS_get b n i l x h]
 apply List.ext_getElem
 ·simp [midS]
 ·intro j h1 h2
  have hj : j < n := by simpa [midS] using h2
  simp only [List.getElem_set, midS, List.getElem_map, List.getElem_range]
  by_cases e : x = j
  ·subst e
   simp only [if_true, List.contains_append]
   have : ([x] : List Nat).contains x = true := by simp
   rw [this, Bool.or_true, if_pos rfl]
   split
   ·exact or_same _ _
   ·rfl
  ·rw [if_neg e]
   have : ([x] : List Nat).contains j = false := by simp [Ne.symm e]
   rw [List.contains_append, this, Bool.or_false]
theorem midS_end (b : List Nat) (n i : Nat) (hn : n ≤ 8) : midS b n i (memB (b.getD i 0)) = midS b n (i + 1) [] := by
 unfold midS
 refine List.map_congr_left fun j hj => ?_
 have hj : j < n := by simpa using hj
 have : (memB (b.getD i 0)).contains j = (b.getD i 0).testBit j := by
  rw [Bool.eq_iff_iff, List.contains_iff_mem]
  constructor
  ·intro h; exact (memB_mem h).2
  ·intro h; exact List.mem_filter.2 ⟨List.mem_range.2 (by omega), by simpa using h⟩
 rw [this]
 simp only [List.contains_nil, Bool.false_eq_true, if_false]
 rfl
theorem midS_start (b : List Nat) (n : Nat) : midS b n 0 [] = List.replicate n 0 := by
 unfold midS
 apply List.ext_getElem
 ·simp
 ·intro j h1 h2; simp [colB]
def invB (b : List Nat) : List Nat := midS b b.length b.length []
theorem zs_rep (n : Nat) : zs (List.replicate n 0) = List.replicate n 0 := by simp [zs]
theorem midS_bnd (b : List Nat) (n i : Nat) (l : List Nat) (hi : i < n) (j : Nat) : (midS b n i l).getD j 0 < 2 ^ n := by
 by_cases h : j < n
 ·rw [midS_get _ _ _ _ _ h]
  have h1 := colB_lt b j i
  have h2 : 2 ^ i < 2 ^ n := Nat.pow_lt_pow_right (by omega) hi
  split
  ·exact Nat.or_lt_two_pow (by omega) h2
  ·omega
 ·rw [List.getD_eq_getElem?_getD, List.getElem?_eq_none (by rw [midS_length]; omega), Option.getD_none]; exact Nat.two_pow_pos n
theorem invB_length (b : List Nat) : (invB b).length = b.length := midS_length _ _ _ _
theorem invB_bit (b : List Nat) (i j : Nat) (hi : i < b.length) : ((invB b).getD i 0).testBit j = (decide (j < b.length) && (b.getD j 0).testBit i) := by
 unfold invB
 rw [midS_get _ _ _ _ _ hi]
 simp only [List.contains_nil, Bool.false_eq_true, if_false]
 exact colB_bit b i b.length j
theorem invB_lt (b : List Nat) (i : Nat) : (invB b).getD i 0 < 2 ^ b.length := by
 by_cases h : i < b.length
 ·unfold invB
  rw [midS_get _ _ _ _ _ h]
  simp only [List.contains_nil, Bool.false_eq_true, if_false]
  exact colB_lt _ _ _
 ·rw [List.getD_eq_getElem?_getD, List.getElem?_eq_none (by rw [invB_length]; omega), Option.getD_none]; exact Nat.two_pow_pos _
set_option maxHeartbeats 1000000 in
theorem inverse_any (b : List Nat) (v : Value) (w : World) (hv : Ints w v (zs b)) (hb : b.length ≤ 8) (hbm : Bnd b.length b) :
  Calls Tryz.prog 94 #[v] w (RetI w (zs (invB b))) := by
 have h256 := two8 hb
 have hv0 := hv
 obtain ⟨p, cap, rfl, hle, hmx, _, hlen⟩ := hv
 unfold maxLen at hmx
 rw [zs_length] at *
 obtain ⟨wm, hmk, hown0, km⟩ := run_makeI w b.length (by omega)
 rw [← zs_rep, ← midS_start b] at hown0
 have HI : Hid (invB b = midS b b.length b.length []) := hid rfl
 have HO0 := hid hown0; clear hown0
 have KM := hid km; clear km
 generalize hn : b.length = n at *
 go_enter Tryz.func94, Tryz.ntmps94
 go_wp2
 clear hmk
 go_loopw [13] (fun i' wr => ∃ i : Nat, i ≤ n ∧ i' = .int .i64 i ∧ OwnI wr w.heap.size (.slice (some ⟨w.heap.size, 0, none⟩) n n) (zs (midS b n i [])) ∧ Keeps w wr) (fun i' _ => n - (intOf i').toNat)
 case atStart => exact ⟨0, by omega, rfl, HO0.out, KM.out⟩
 case round =>
  obtain ⟨i, hi, rfl, hown, kw⟩ := hrel
  clear HO0 KM
  by_cases hlt : i < n
  ·have hlt' : (i : Int) < n := by omega
   obtain ⟨_, _, e1, _, _, hat, _⟩ := hv0.keeps kw
   rw [zs_length, hn] at e1
   cases e1
   obtain ⟨b1, o1, rfl, h1⟩ := hat.int i (by rw [zs_length]; omega)
   rw [zs_get, ← getD_get] at h1
   have hx := hbm i
   have HE := hid (midS_end b n i hb)
   have HM := hid (fun w2 => membersB_any (b.getD i 0) w2 (by omega))
   have HL := hid (fun x (h : x ∈ memB (b.getD i 0)) => memB_lt hx h)
   have hml : (memB (b.getD i 0)).length ≤ 8 := lowB_len _ 8
   clear hat
   generalize memB (b.getD i 0) = l at *
   generalize b.getD i 0 = x at *
   go_wp2_with fail
   refine (HM.out _).mono ?_; rintro e w2 ⟨v2, rfl, hv2, k2⟩
   obtain ⟨p2, c2, rfl, _, hm2, _, _⟩ := hv2.ints (by rw [zs_length]; omega)
   unfold maxLen at hm2
   rw [zs_length] at *
   have hB0 : w.heap.size < wr.heap.size := (hown.len _ rfl).2
   have HO := hid (hown.keeps k2); clear hown
   have KW := hid (kw.trans k2); clear kw
   generalize wr.heap.size = B0 at *
   have HV2 := hid hv2; clear hv2
   go_wp2
   go_loopw [21] (fun t' wr' => ∃ t : Nat, t ≤ l.length ∧ t' = .int .i64 t ∧ OwnI wr' w.heap.size (.slice (some ⟨w.heap.size, 0, none⟩) n n) (zs (midS b n i (l.take t))) ∧ Keeps w wr' ∧ OwnI wr' B0 (.slice p2 l.length c2) (zs l)) (fun t' _ => l.length - (intOf t').toNat)
   case atStart => exact ⟨0, by omega, rfl, HO.out, KW.out, HV2.out⟩
   case round =>
    obtain ⟨t, ht, rfl, hown, kw, hl2⟩ := hrel
    clear HO KW HV2
    by_cases htl : t < l.length
    ·have htl' : (t : Int) < l.length := by omega
     obtain ⟨_, _, e1, _, _, hat, _⟩ := hl2.ints (by rw [zs_length]; omega)
     rw [zs_length] at e1
     cases e1
     obtain ⟨b3, o3, rfl, h3⟩ := hat.int t (by rw [zs_length]; exact htl)
     rw [zs_get] at h3
     clear hat
     have hy := HL.out l[t] (List.getElem_mem htl)
     have hstp := midS_step b n i (l.take t) l[t] hy
     rw [← List.take_succ_eq_append_getElem htl] at hstp
     have hbd := midS_bnd b n i (l.take t) hlt l[t]
     have hml2 := midS_length b n i (l.take t)
     generalize midS b n i (l.take t) = r at *
     generalize hr' : midS b n i (l.take (t + 1)) = r' at *
     have HR' := hid hr'; clear hr'
     generalize l[t] = y at *
     obtain ⟨ci, fi⟩ := hown.cell y (by rw [zs_length, hml2]; exact hy)
     rw [zs_get, ← getD_get] at ci
     have e1 := (pow63 i (by omega)).1
     have e2 : ((2 ^ i : Nat) : Int) = 2 ^ i := by push_cast; rfl
     have h2i : 2 ^ i < 256 := Nat.lt_of_lt_of_le (Nat.pow_lt_pow_right (by omega) (show i < 8 by omega)) (by omega)
     have hor := orN (r.getD y 0) (2 ^ i) (by omega) (by omega)
     rw [e2] at hor
     have hst := OwnI.store (hown.keeps (Keeps.refl wr).drew) y (by rw [zs_length, hml2]; exact hy) ((r.getD y 0 ||| 2 ^ i : Nat) : Int)
     rw [← zs_set, hstp] at hst
     have hl3 := OwnI.setBelow (hl2.keeps (Keeps.refl wr).drew) (o := y) hB0 (.int .i64 ((r.getD y 0 ||| 2 ^ i : Nat) : Int))
     have HST := hid hst; clear hst
     have KW := hid kw; clear kw
     have HL3 := hid hl3; clear hl3
     clear hl2 hown hstp e2
     have hy' : (y : Int) < n := by omega
     generalize r.getD y 0 = x at *
     go_wp2_with fail
     go_region
     go_wp2
     go_roundw
     case rel => exact ⟨t + 1, by omega, by go_num, by rw [HR'.out]; first | exact HST.out.1 | (rw [hor]; exact HST.out.1), by first | exact (Keeps.drew KW.out).grown HST.out.2 (fun k hk => by cases hk; simp) | (rw [hor]; exact (Keeps.drew KW.out).grown HST.out.2 (fun k hk => by cases hk; simp)), by first | exact HL3.out | (rw [hor]; exact HL3.out)⟩
     case measure => simp [intOf]; omega
    ·have htl' : ¬ (t : Int) < l.length := by omega
     rw [List.take_of_length_le (by omega), HE.out] at hown
     go_wp2_with fail
     go_roundw
     case rel => exact ⟨i + 1, by omega, by go_num, hown, kw⟩
     case measure => simp [intOf]; omega
  ·obtain rfl : i = n := by omega
   have hlt' : ¬ (i : Int) < i := by omega
   go_wp2_with fail
   go_ret
   exact ⟨_, rfl, by rw [HI.out]; exact hown, kw⟩
end Go.Proofs.YtfmmajgkjkmghaaGreatDoor
