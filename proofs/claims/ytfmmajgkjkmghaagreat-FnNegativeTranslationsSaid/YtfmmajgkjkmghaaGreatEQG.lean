import Derived.Test.YtfmmajgkjkmghaaGreatEHD
import Derived.Test.YtfmmajgkjkmghaaGreatEQN
import Derived.Test.YtfmmajgkjkmghaaGreatEPD
import Derived.Test.YtfmmajgkjkmghaaGreatETU
/- The program's truth set: the formula is walked from behind over a stack. -/
namespace Go.Proofs.YtfmmajgkjkmghaaGreat
open Go.RowKit
end Go.Proofs.YtfmmajgkjkmghaaGreat
namespace Go.Proofs.YtfmmajgkjkmghaaGreat
open Go.RowKit
end Go.Proofs.YtfmmajgkjkmghaaGreat
namespace Go.Proofs.YtfmmajgkjkmghaaGreat
open Go.RowKit
def isUpI (b : List Nat) (x : Int) : Bool := isM b.length x && decide (((img b x.toNat : Nat) : Int) = x)
def isVal (n : Int) (a vs : List Int) : Bool := isPos n a && (decide (vs.length = 6) && vs.all (isUpI (a.map Int.toNat)))
set_option maxRecDepth 20000 in
theorem isUpsetI_any (b : List Nat) (x : Int) (v : Value) (w : World) (hv : Ints w v (zs b)) (hb : b.length ≤ 8) (hbm : Bnd b.length b) :
  Calls Tryz.prog 98 #[.agg #[.int .i64 b.length, v], .int .i64 x] w fun e w' => e = .returned (.bool (isUpI b x)) ∧ Keeps w w' := by
 have kA := (Keeps.refl w).alloc (.cells #[.int .i64 b.length, v] 31)
 have HM := hid (fun w2 => isMask_any b.length x w2 hb)
 have HU : Hid (isUpI b x = (isM b.length x && decide (((img b x.toNat : Nat) : Int) = x))) := hid rfl
 cases h1 : isM b.length x
 ·rw [h1] at HM HU
  clear h1
  obtain ⟨p, cap, rfl, _⟩ := hv
  go_enter Tryz.func98, Tryz.ntmps98
  go_wp2_with fail
  refine (HM.out _).mono ?_; rintro e w2 ⟨rfl, rfl⟩
  go_wp2_with fail
  go_ret
  exact ⟨by rw [HU.out]; rfl, kA⟩
 ·rw [h1] at HM HU
  obtain ⟨k, rfl, hk⟩ := (isM_iff b.length x).1 h1
  clear h1
  have HI := hid (image_any b k v _ (hv.keeps kA) hb (bnd_mem hbm) hk)
  have h256 := two8 hb
  have hlt := img_lt (bnd_mem hbm) k
  simp only [Int.toNat_natCast, Bool.true_and] at HU
  obtain ⟨p, cap, rfl, _⟩ := hv
  clear hbm
  by_cases e : ((img b k : Nat) : Int) = k
  ·have he : (((img b k : Nat) : Int) == k) = true := by simp [e]
   rw [decide_eq_true e] at HU
   clear e
   generalize img b k = m at *
   go_enter Tryz.func98, Tryz.ntmps98
   go_wp2_with fail
   refine (HM.out _).mono ?_; rintro e w2 ⟨rfl, rfl⟩
   go_wp2_with fail
   refine HI.out.mono ?_; rintro e w2 ⟨rfl, k2⟩
   go_wp2_with fail
   go_ret
   exact ⟨by rw [HU.out]; first | rfl | rw [he], kA.trans k2⟩
  ·have he : (((img b k : Nat) : Int) == k) = false := by simp; omega
   rw [decide_eq_false e] at HU
   clear e
   generalize img b k = m at *
   go_enter Tryz.func98, Tryz.ntmps98
   go_wp2_with fail
   refine (HM.out _).mono ?_; rintro e w2 ⟨rfl, rfl⟩
   go_wp2_with fail
   refine HI.out.mono ?_; rintro e w2 ⟨rfl, k2⟩
   go_wp2_with fail
   go_ret
   exact ⟨by rw [HU.out]; first | rfl | rw [he], kA.trans k2⟩
set_option maxRecDepth 20000 in
theorem isValuation_1_any (b : List Nat) (x : Int) (v : Value) (B : Nat) (w : World) (hc : BoxF w B b.length v) (hv : Ints w v (zs b)) (hb : b.length ≤ 8) (hbm : Bnd b.length b) :
  Calls Tryz.prog 97 #[.int .i64 x, .pointer (some ⟨B, 0, none⟩)] w fun e w' => e = .returned (.bool (!isUpI b x)) ∧ Keeps w w' := by
 have HU := hid (isUpsetI_any b x v w hv hb hbm)
 obtain ⟨c0, c1⟩ := hc
 obtain ⟨p, cap, rfl, _⟩ := hv
 generalize isUpI b x = r at *
 go_enter Tryz.func97, Tryz.ntmps97
 go_wp2_with fail
 refine HU.out.mono ?_; rintro e w2 ⟨rfl, k2⟩
 go_wp2_with fail
 go_ret
 exact ⟨rfl, k2⟩
theorem enters_isValuation_1 : Enters 97 := fun _ _ => by kernel_rfl
set_option maxRecDepth 20000 in
set_option maxHeartbeats 1000000 in
theorem isValuation_any (n : Int) (a vs : List Int) (v u : Value) (w : World) (hv : Ints w v a) (hu : Ints w u vs) :
  Calls Tryz.prog 41 #[.agg #[.int .i64 n, v], u] w fun e w' => e = .returned (.bool (isVal n a vs)) ∧ Keeps w w' := by
 have kA := (Keeps.refl w).alloc (.cells #[.int .i64 n, v] 31)
 have hbx := BoxF.made w n v 31
 have HP := hid (isPoset_any n a v _ (hv.keeps kA))
 have HV : Hid (isVal n a vs = (isPos n a && (decide (vs.length = 6) && vs.all (isUpI (a.map Int.toNat))))) := hid rfl
 cases h1 : isPos n a
 ·rw [h1] at HP HV
  simp only [Bool.false_and] at HV
  clear h1 hbx
  obtain ⟨p, cap, rfl, _⟩ := hv
  obtain ⟨q, cap2, rfl, _⟩ := hu
  go_enter Tryz.func41, Tryz.ntmps41
  go_wp2_with fail
  refine HP.out.mono ?_; rintro e w2 ⟨rfl, k2⟩
  go_wp2_with fail
  go_ret
  exact ⟨by rw [HV.out]; rfl, kA.trans k2⟩
 ·rw [h1] at HP HV
  obtain ⟨b, rfl, rfl, h8, hbm, _⟩ := (isPos_iff n a).1 h1
  rw [zs_toNat] at HV
  clear h1
  by_cases h6 : vs.length = 6
  ·rw [decide_eq_true h6] at HV
   have HC := hid (fun w1 (k : Keeps (w.alloc (.cells #[.int .i64 b.length, v] 31)) w1) => containsFuncI (fun x => !isUpI b x) 97 #[.pointer (some ⟨w.heap.size, 0, none⟩)] vs u w1 (hu.keeps (kA.trans k)) enters_isValuation_1 (fun x w2 _ k2 => isValuation_1_any b x v w.heap.size w2 (hbx.keeps (k.trans k2)) (hv.keeps (kA.trans (k.trans k2))) h8 hbm))
   have he : (!(vs.any fun x => !isUpI b x)) = vs.all (isUpI b) := by rw [List.all_eq_not_any_not]
   have HE := hid he; clear he
   obtain ⟨c0, c1⟩ := hbx
   obtain ⟨p, cap, rfl, _⟩ := hv
   obtain ⟨q, cap2, rfl, _⟩ := hu
   rw [h6] at *
   rw [zs_length] at *
   generalize (vs.any fun x => !isUpI b x) = r at *
   clear hbm h6
   go_enter Tryz.func41, Tryz.ntmps41
   go_wp2_with fail
   refine HP.out.mono ?_; rintro e w2 ⟨rfl, k2⟩
   go_wp2_with fail
   refine (HC.out _ k2).mono ?_; rintro e w3 ⟨rfl, k3⟩
   go_wp2_with fail
   go_ret
   exact ⟨by rw [HV.out, ← HE.out]; rfl, kA.trans (k2.trans k3)⟩
  ·rw [decide_eq_false h6] at HV
   simp only [Bool.false_and, Bool.and_false] at HV
   have hd : ((vs.length : Int) == 6) = false := by simp; omega
   obtain ⟨p, cap, rfl, _⟩ := hv
   obtain ⟨q, cap2, rfl, _⟩ := hu
   clear h6 hbx
   go_enter Tryz.func41, Tryz.ntmps41
   go_wp2_with fail
   refine HP.out.mono ?_; rintro e w2 ⟨rfl, k2⟩
   go_wp2_with fail
   go_ret
   exact ⟨by rw [HV.out]; rfl, kA.trans k2⟩
end Go.Proofs.YtfmmajgkjkmghaaGreat
