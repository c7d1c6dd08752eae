import Derived.Test.YtfmmajgkjkmghaaGreatDoorHOQ
import Derived.Test.YtfmmajgkjkmghaaGreatDoorHPP
/- Parts of orders: squeeze, partOn, on; numbers of classes (the program's side). -/
namespace Go.Proofs.YtfmmajgkjkmghaaGreatDoor
open Go.RowKit
def prtL (b : List Nat) (m : Nat) : List Nat := (memB m).map fun x => sqz (memB m) (b.getD x 0) (memB m).length
theorem prtL_len (b : List Nat) (m : Nat) : (prtL b m).length = (memB m).length := by simp [prtL]
theorem memB_len8 (m : Nat) : (memB m).length ≤ 8 := lowB_len m 8
set_option maxRecDepth 20000 in
set_option maxHeartbeats 1000000 in
theorem squeeze_any (m d : Nat) (w : World) (hm : m < 256) (hd : d < 256) :
  Calls Tryz.prog 134 #[.int .i64 m, .int .i64 d] w fun e w' => e = .returned (.int .i64 (sqz (memB d) m (memB d).length : Nat)) ∧ Keeps w w' := by
 have HM := hid (membersB_any d w hd)
 have h8 := memB_len8 d
 have HO8 := hid (fun i => show (memB d).getD i 0 ≤ 8 by
  by_cases hi : i < (memB d).length
  ·rw [getD_get hi]; have := (memB_mem (List.getElem_mem hi)).1; omega
  ·rw [List.getD_eq_getElem?_getD, List.getElem?_eq_none (by omega)]; simp)
 generalize memB d = o at *
 have hlo := zs_length o
 have HB := hid (fun i wz => hasB_any m (o.getD i 0) wz hm (HO8.out i))
 have HS : Hid (∀ k, sqz o m (k + 1) = sqz o m k ||| (if m.testBit (o.getD k 0) then 2 ^ k else 0)) := hid fun _ => rfl
 have HL := hid (sqz_lt o m)
 have H0 : Hid (sqz o m 0 = 0) := hid rfl
 obtain ⟨Z, hZ⟩ : ∃ Z : Nat → Nat, ∀ i, Z i = sqz o m i := ⟨_, fun _ => rfl⟩
 obtain ⟨G, hG⟩ : ∃ G : Nat → Nat, ∀ i, G i = o.getD i 0 := ⟨fun i => o.getD i 0, fun _ => rfl⟩
 have HG := hid (fun i wz (p : Option Addr) (n cap : Nat) (h : Ints wz (.slice p n cap) (zs o)) (hi : i < o.length) => h.zs_cell i hi)
 simp only [← hG] at HB HS HG
 simp only [← hZ] at HS HL H0 ⊢
 clear hG hZ HO8
 generalize o.length = n at *
 go_enter Tryz.func134, Tryz.ntmps134
 go_wp2_with fail
 refine HM.out.mono ?_; rintro e w2 ⟨v2, rfl, hv2, k2⟩
 have hin := hv2.ints (by rw [hlo]; omega)
 obtain ⟨p2, c2, rfl, -, hmx2, -⟩ := At.of_own hv2
 unfold maxLen at hmx2
 rw [hlo] at *
 have HIN := hid hin; clear hin hv2 hlo
 have HG2 := hid (fun i (hi : i < n) => HG.out i w2 _ _ _ HIN.out hi); clear HG HIN HM
 go_wp2_with fail
 go_loopw [5, 11] (fun s5 s11 wr => ∃ i : Nat, i ≤ n ∧ s5 = .int .i64 (Z i : Nat) ∧ s11 = .int .i64 i ∧ wr = w2) (fun _ s11 _ => n - (intOf s11).toNat)
 case atStart => exact ⟨0, by omega, by rw [H0.out]; rfl, rfl, rfl⟩
 case round =>
  obtain ⟨i, hi, rfl, rfl, rfl⟩ := hrel
  by_cases hlt : i < n
  ·have hlt' : (i : Int) < n := by omega
   obtain ⟨b1, o1, e1, h1⟩ := HG2.out i hlt
   cases e1
   have HBI := hid (HB.out i)
   have hs := HS.out i
   have hlz := HL.out i
   have h2i : 2 ^ i ≤ 2 ^ 8 := Nat.pow_le_pow_right (by omega) (by omega)
   have hor := orN (Z i) (2 ^ i) (by omega) (by omega)
   have hpw : (2 : Int) ^ i = ((2 ^ i : Nat) : Int) := by push_cast; rfl
   have hwp : wrap64 ((2 ^ i : Nat) : Int) = ((2 ^ i : Nat) : Int) := by
    generalize 2 ^ i = q at *
    unfold wrap64; omega
   clear hlz
   generalize G i = y at *
   cases hb : m.testBit y
   ·rw [hb] at HBI
    have HZ2 : Hid (Z (i + 1) = Z i) := hid (by rw [hs, hb]; simp)
    clear hb hs hor hpw hwp h2i
    generalize hz : Z i = z at *
    have HZI := hid hz; clear hz
    go_wp2_with fail
    refine (HBI.out _).mono ?_; rintro e w' ⟨rfl, rfl⟩
    go_wp2_with fail
    go_roundw
    case rel => exact ⟨i + 1, by omega, by rw [HZ2.out], by go_num, by trivial⟩
    case measure => simp [intOf]; omega
   ·rw [hb] at HBI
    have HZ2 : Hid (Z (i + 1) = Z i ||| 2 ^ i) := hid (by rw [hs, hb]; simp)
    clear hb hs h2i
    rw [← hpw] at hwp hor
    generalize hz : Z i = z at *
    have HZI := hid hz; clear hz
    have HWP := hid hwp
    have HOR := hid hor
    clear hpw hwp hor
    go_wp2_with fail
    refine (HBI.out _).mono ?_; rintro e w' ⟨rfl, rfl⟩
    go_wp2_with fail
    go_roundw
    case rel => exact ⟨i + 1, by omega, by rw [HZ2.out, HWP.out, HOR.out], by go_num, by trivial⟩
    case measure => simp [intOf]; omega
  ·have e : i = n := by omega
   subst e
   have hlt' : ¬ (i : Int) < i := by omega
   go_wp2_with fail
   go_ret
   exact ⟨rfl, k2⟩
set_option maxRecDepth 20000 in
set_option maxHeartbeats 1000000 in
theorem partOn_any (b : List Nat) (m : Nat) (v : Value) (w : World) (hv : Ints w v (zs b)) (h8 : b.length ≤ 8) (hb : Bnd 8 b) (hm : m < 2 ^ b.length) :
  Calls Tryz.prog 69 #[v, .int .i64 m] w (RetI w (zs (prtL b m))) := by
 have h256 : m < 256 := Nat.lt_of_lt_of_le hm (two8 h8)
 have HM := hid (membersB_any m w h256)
 have hv0 := hv
 obtain ⟨p, cap, rfl, -, hmx, -, -⟩ := hv
 rw [zs_length b] at *
 unfold maxLen at hmx
 have HVC := hid (fun i (hi : i < b.length) wr (k : Keeps w wr) => (hv0.keeps k).zs_cell i hi)
 have HSQ := hid (fun i wz => squeeze_any (b.getD i 0) m wz (hb i) h256)
 have HML := hid (fun i (hi : i < (memB m).length) => show (memB m).getD i 0 < b.length by rw [getD_get hi]; exact memB_lt hm (List.getElem_mem hi))
 have HTK : Hid (∀ i, i < (memB m).length → (prtL b m).take (i + 1) = (prtL b m).take i ++ [sqz (memB m) (b.getD ((memB m).getD i 0) 0) (memB m).length]) := hid fun i hi => by
  rw [List.take_succ_eq_append_getElem (by rw [prtL_len]; exact hi)]
  congr 1
  simp only [prtL, List.getElem_map]
  rw [getD_get hi]
 have HEN : Hid ((prtL b m).take (memB m).length = prtL b m) := hid (List.take_of_length_le (by rw [prtL_len]; omega))
 have HLN := hid (fun i (hi : i ≤ (memB m).length) => show (zs ((prtL b m).take i)).length = i by rw [zs_length, List.length_take, prtL_len]; omega)
 have hm8 := memB_len8 m
 generalize prtL b m = R at *
 obtain ⟨A, hA⟩ : ∃ A : Nat → Nat, ∀ k, A k = b.getD k 0 := ⟨_, fun _ => rfl⟩
 obtain ⟨S, hS⟩ : ∃ S : Nat → Nat, ∀ y, S y = sqz (memB m) (b.getD y 0) (memB m).length := ⟨_, fun _ => rfl⟩
 simp only [← hS] at HSQ HTK
 simp only [← hA] at HVC HSQ
 clear hA hS hb hv0
 generalize memB m = o at *
 have hlo := zs_length o
 have HG := hid (fun i wz (p : Option Addr) (n cap : Nat) (h : Ints wz (.slice p n cap) (zs o)) (hi : i < o.length) => h.zs_cell i hi)
 obtain ⟨G, hG⟩ : ∃ G : Nat → Nat, ∀ i, G i = o.getD i 0 := ⟨fun i => o.getD i 0, fun _ => rfl⟩
 simp only [← hG] at HG HML HTK
 clear hG
 generalize o.length = n at *
 generalize b.length = bl at *
 go_enter Tryz.func69, Tryz.ntmps69
 go_wp2_with fail
 refine HM.out.mono ?_; rintro e w2 ⟨v2, rfl, hv2, k2⟩
 have hin := hv2.ints (by rw [hlo]; omega)
 obtain ⟨p2, c2, rfl, -, hmx2, -⟩ := At.of_own hv2
 unfold maxLen at hmx2
 rw [hlo] at *
 have HIN := hid hin
 have HZ2 := hid k2.size
 have K2 := hid k2
 clear hin hv2 hlo HM k2
 go_wp2_with fail
 go_loopw [5, 11] (fun s5 s11 wr => ∃ i : Nat, i ≤ n ∧ s11 = .int .i64 i ∧ OwnI wr w2.heap.size s5 (zs (R.take i)) ∧ Keeps w2 wr) (fun _ s11 _ => n - (intOf s11).toNat)
 case atStart => exact ⟨0, by omega, rfl, OwnI.nil _ _, Keeps.refl _⟩
 case round =>
  obtain ⟨i, hi, rfl, hown, kw⟩ := hrel
  by_cases hlt : i < n
  ·have hlt' : (i : Int) < n := by omega
   obtain ⟨b1, o1, e1, h1⟩ := HG.out i wr _ _ _ (HIN.out.keeps kw) hlt
   cases e1
   have hgl := HML.out i hlt
   have hgl' : (G i : Int) < bl := by omega
   obtain ⟨b2, o2, e2, h2⟩ := HVC.out (G i) hgl wr (K2.out.trans kw)
   cases e2
   have HSI := hid (HSQ.out (G i))
   have HTI := hid (HTK.out i hlt)
   have hzl := HLN.out i hi
   have hsz := kw.size
   generalize G i = x at *
   generalize A x = ax at *
   generalize S x = sx at *
   have HO := hid hown; clear hown
   go_wp2_with fail
   refine (HSI.out _).mono ?_; rintro e w4 ⟨rfl, k4⟩
   have kA := k4.alloc (.cells #[.int .i64 (sx : Int)] 2)
   go_wp2_with (at_builtin; refine appI rfl _ _ rfl w2.heap.size _ (zs (R.take i)) rfl (HO.out.keeps kA) _ [(sx : Int)] rfl (Ints.lit1 w4 sx) (by have := kA.size; omega) (by rw [hzl]; simp; omega) ?_; intro v5 w5 hv5 hg5 hr5)
   go_roundw
   case rel => exact ⟨i + 1, by omega, by go_num, by rw [HTI.out, zs_snoc]; exact hv5, (kw.trans kA).grown hg5 hr5⟩
   case measure => simp [intOf]; omega
  ·have e : i = n := by omega
   subst e
   have hlt' : ¬ (i : Int) < i := by omega
   rw [HEN.out] at hown
   have HO := hid (hown.mono HZ2.out)
   obtain ⟨p9, n9, c9, rfl⟩ := (show ∃ p n c, _ = Value.slice p n c by obtain ⟨p, c, e, _⟩ := At.of_own hown; exact ⟨p, _, c, e⟩)
   clear hown
   go_wp2_with fail
   go_ret
   exact ⟨_, rfl, HO.out, K2.out.trans kw⟩
end Go.Proofs.YtfmmajgkjkmghaaGreatDoor
namespace Go.Proofs.YtfmmajgkjkmghaaGreatDoor
open Go.RowKit
def RetN (w : World) (a : List Nd) (e : Ending) (w' : World) : Prop := ∃ v, e = .returned v ∧ OwnN w' w.heap.size v a ∧ Keeps w w'
def plainL (a : List Nd) : Bool := a.all fun n => decide (n.k ≠ 5 ∧ n.k ≠ 6)
end Go.Proofs.YtfmmajgkjkmghaaGreatDoor
namespace Go.Proofs.YtfmmajgkjkmghaaGreatDoor
open Go.RowKit
set_option maxHeartbeats 400000 in
theorem indexFuncN (pr : Nd → Bool) (f : FuncId) (cp : Array Value) (a : List Nd) (v : Value) (w : World) (hv : Nds w v a) (hcf : Enters f)
  (hf : ∀ x w1, x ∈ a → Keeps w w1 → Calls Tryz.prog f (#[.agg #[.int .i64 x.k, .int .i64 x.s]] ++ cp) w1 fun e w2 => e = .returned (.bool (pr x)) ∧ Keeps w1 w2) :
  Calls Tryz.prog 183 #[v, .func (.func f) #[] cp] w fun e w' => e = .returned (.int .i64 (idxOf pr a 0)) ∧ Keeps w w' := by
 obtain ⟨p, cap, rfl, hle, hmx, hr, hlen⟩ := hv
 unfold maxLen at hmx
 have HF := hid hf; clear hf
 have hcf' : ∀ args w, (callFunc f args).run Tryz.prog w = .ok (.enter f args) w := hcf
 clear hcf
 go_enter Tryz.func183, Tryz.ntmps183
 go_wp2
 go_loopw [4, 8] (fun r i' wr => ∃ k : Nat, k ≤ a.length ∧ idxOf pr a 0 = idxOf pr (a.drop k) k ∧ Keeps w wr ∧ i' = .int .i64 k ∧ r = .int .i64 0) (fun _ i _ => a.length - (intOf i).toNat)
 case atStart => exact ⟨0, by omega, by simp, Keeps.refl w, rfl, rfl⟩
 case round =>
  obtain ⟨k, hk, hs, kw, rfl, rfl⟩ := hrel
  have Hs := hid hs; clear hs
  by_cases hlt : k < a.length
  ·obtain ⟨b, off, rfl, h1, h2⟩ := (hr.keeps kw).nd k hlt
   have hd := hid (idxOf_drop pr a k hlt)
   clear hr
   cases hp : pr a[k]
   all_goals
    have Hp := hid hp; clear hp
    go_wp2_with ((with_reducible refine (HF.out a[k] wr (List.getElem_mem hlt) kw).mono ?_); rintro e w2 ⟨rfl, k2⟩; rw [Hp.out])
   ·go_roundw
    case rel => exact ⟨k + 1, by omega, by rw [Hs.out, hd.out, Hp.out]; rfl, kw.trans k2, by go_num, rfl⟩
    case measure => simp [intOf]; omega
   ·go_ret
    exact ⟨ret_int (by rw [Hs.out, hd.out, Hp.out]; rfl), kw.trans k2⟩
  ·go_wp2
   go_ret
   exact ⟨ret_int (by rw [Hs.out, idxOf_end _ _ _ (by omega)]), kw⟩
theorem containsFuncN (pr : Nd → Bool) (f : FuncId) (cp : Array Value) (a : List Nd) (v : Value) (w : World) (hv : Nds w v a) (hcf : Enters f)
  (hf : ∀ x w1, x ∈ a → Keeps w w1 → Calls Tryz.prog f (#[.agg #[.int .i64 x.k, .int .i64 x.s]] ++ cp) w1 fun e w2 => e = .returned (.bool (pr x)) ∧ Keeps w1 w2) :
  Calls Tryz.prog 161 #[v, .func (.func f) #[] cp] w fun e w' => e = .returned (.bool (a.any pr)) ∧ Keeps w w' := by
 have H := hid (indexFuncN pr f cp a v w hv hcf hf)
 clear hv hf hcf
 have he := hid (idxOf_any pr a 0)
 go_enter Tryz.func161, Tryz.ntmps161
 go_wp2_with (go_at_call 183; refine H.out.mono ?_; rintro e w2 ⟨rfl, k2⟩)
 go_ret
 exact ⟨ret_bool he.out, k2⟩
theorem isVariable_any (x : Int) (w : World) : Calls Tryz.prog 184 #[.int .i64 x] w fun e w' => e = .returned (.bool (inR x 0 5)) ∧ w = w' := by
 go_enter Tryz.func184, Tryz.ntmps184
 go_wp2_with (go_at_call 42; refine (inRange_any _ _ _ _).mono ?_; rintro e w' ⟨rfl, rfl⟩)
 go_ret
 exact ⟨rfl, rfl⟩
set_option maxHeartbeats 400000 in
theorem isNode_any (x : Nd) (w : World) : Calls Tryz.prog 163 #[.agg #[.int .i64 x.k, .int .i64 x.s]] w fun e w' => e = .returned (.bool (okNd x)) ∧ Keeps w w' := by
 by_cases h : x.k = 0
 ·have h' : (x.k == 0) = true := by simp [h]
  have H := hid h; clear h
  go_enter Tryz.func163, Tryz.ntmps163
  go_wp2_with (go_at_call 184; refine (isVariable_any _ _).mono ?_; rintro e w' ⟨rfl, rfl⟩)
  go_ret
  exact ⟨ret_bool (by simp [okNd, H.out, inR]), (Keeps.refl w).alloc _⟩
 ·have h' : (x.k == 0) = false := by simp [h]
  have H := hid h; clear h
  cases hi : inR x.k 1 6
  all_goals
   have Hi := hid hi; clear hi
   go_enter Tryz.func163, Tryz.ntmps163
   go_wp2_with (go_at_call 42; refine (inRange_any _ _ _ _).mono ?_; rintro e w' ⟨rfl, rfl⟩; rw [Hi.out])
   go_ret
   refine ⟨ret_bool ?_, (Keeps.refl w).alloc _⟩
   have := Hi.out
   simp only [inR, decide_eq_true_eq, decide_eq_false_iff_not] at this
   unfold okNd
   rw [if_neg H.out]
   by_cases h0 : x.s = 0 <;> simp [h0] <;> omega
theorem isFormula_1_any (x : Nd) (w : World) : Calls Tryz.prog 162 #[.agg #[.int .i64 x.k, .int .i64 x.s]] w fun e w' => e = .returned (.bool (!okNd x)) ∧ Keeps w w' := by
 go_enter Tryz.func162, Tryz.ntmps162
 go_wp2_with (go_at_call 163; refine (isNode_any x _).mono ?_; rintro e w' ⟨rfl, k1⟩)
 go_ret
 exact ⟨rfl, ((Keeps.refl w).alloc _).trans k1⟩
theorem enters_isFormula_1 : Enters 162 := fun _ _ => by kernel_rfl
theorem isFm_split (a : List Nd) : isFm a = (decide (1 ≤ a.length) && (decide (a.length ≤ 40) && (!(a.any fun x => !okNd x) && (skipInt 1 a 0 == (a.length : Int))))) := by
 unfold isFm isTree
 have : (!(a.any fun x => !okNd x)) = a.all okNd := by
  induction a with
  | nil => rfl
  | cons x l ih => simp [List.all_cons, List.any_cons, ← ih]
 rw [this]
 cases a.all okNd <;> simp
 by_cases h : 0 < a.length <;> simp [h]
 all_goals omega
set_option maxHeartbeats 400000 in
theorem isFormula_any (a : List Nd) (v : Value) (w : World) (hv : Nds w v a) :
  Calls Tryz.prog 126 #[v] w fun e w' => e = .returned (.bool (isFm a)) ∧ Keeps w w' := by
 have hsp := hid (isFm_split a)
 have hv0 := hv
 obtain ⟨p, cap, rfl, hle, hmx, hr, hlen⟩ := hv
 unfold maxLen at hmx
 clear hr
 by_cases h1 : 1 ≤ a.length
 ·by_cases h40 : a.length ≤ 40
  ·cases ho : a.any fun x => !okNd x
   all_goals
    have Ho := hid ho; clear ho
    go_enter Tryz.func126, Tryz.ntmps126
    go_wp2_with (first
     | (go_at_call 161; refine (containsFuncN (fun x => !okNd x) _ #[] a _ _ hv0 enters_isFormula_1 (fun x w1 _ _ => isFormula_1_any x w1)).mono ?_; rintro e w1 ⟨rfl, k1⟩; rw [Ho.out])
     | (go_at_call 164; refine (partEnd_any a _ _ _ (hv0.keeps k1) (by omega) (by omega)).mono ?_; rintro e w' ⟨rfl, rfl⟩))
    go_ret
    refine ⟨ret_bool ?_, k1⟩
    rw [hsp.out, Ho.out]
    simp [h1, h40]
  ·go_enter Tryz.func126, Tryz.ntmps126
   go_wp2
   go_ret
   refine ⟨ret_bool ?_, Keeps.refl _⟩
   rw [hsp.out]; simp; omega
 ·go_enter Tryz.func126, Tryz.ntmps126
  go_wp2
  go_ret
  refine ⟨ret_bool ?_, Keeps.refl _⟩
  rw [hsp.out]; simp; omega
def modalB (k : Int) : Bool := decide (k = 5 ∨ k = 6)
theorem isModal_any (x : Int) (w : World) : Calls Tryz.prog 166 #[.int .i64 x] w fun e w' => e = .returned (.bool (modalB x)) ∧ w = w' := by
 go_enter Tryz.func166, Tryz.ntmps166
 go_wp2
 all_goals go_ret
 all_goals exact ⟨ret_bool (by by_cases h5 : x = 5 <;> by_cases h6 : x = 6 <;> simp_all [modalB]), rfl⟩
theorem isPlain_1_any (x : Nd) (w : World) : Calls Tryz.prog 165 #[.agg #[.int .i64 x.k, .int .i64 x.s]] w fun e w' => e = .returned (.bool (modalB x.k)) ∧ Keeps w w' := by
 go_enter Tryz.func165, Tryz.ntmps165
 go_wp2_with (go_at_call 166; refine (isModal_any _ _).mono ?_; rintro e w' ⟨rfl, rfl⟩)
 go_ret
 exact ⟨rfl, (Keeps.refl w).alloc _⟩
theorem enters_isPlain_1 : Enters 165 := fun _ _ => by kernel_rfl
theorem plainL_any (a : List Nd) : (!(a.any fun x => modalB x.k)) = plainL a := by
 unfold plainL
 induction a with
 | nil => rfl
 | cons x l ih => simp only [List.all_cons, List.any_cons, ← ih]; by_cases h : x.k = 5 <;> by_cases h' : x.k = 6 <;> simp [h, h', modalB]
theorem isPlain_any (a : List Nd) (v : Value) (w : World) (hv : Nds w v a) :
  Calls Tryz.prog 128 #[v] w fun e w' => e = .returned (.bool (plainL a)) ∧ Keeps w w' := by
 have hp := hid (plainL_any a)
 go_enter Tryz.func128, Tryz.ntmps128
 go_wp2_with (go_at_call 161; refine (containsFuncN (fun x => modalB x.k) _ #[] a _ _ hv enters_isPlain_1 (fun x w1 _ _ => isPlain_1_any x w1)).mono ?_; rintro e w1 ⟨rfl, k1⟩)
 go_ret
 exact ⟨ret_bool hp.out, k1⟩
end Go.Proofs.YtfmmajgkjkmghaaGreatDoor
namespace Go.Proofs.YtfmmajgkjkmghaaGreatDoor
open Go.RowKit
end Go.Proofs.YtfmmajgkjkmghaaGreatDoor
