/- Relations: lists of masks, on both sides; the library's IndexFunc, ContainsFunc, Clone and Equal at []int64. -/
import Derived.Test.YtolepbiepebclaaQA
import Derived.Test.YtolepbiepebclaaPP
namespace Go.Proofs.Ytolepbiepebclaa
open Go.RowKit
/-- a mask of n elements, decided -/
def isM (n : Nat) (x : Int) : Bool := inR x 0 ((2 : Int) ^ n - 1)
theorem isM_iff (n : Nat) (x : Int) : isM n x = true ↔ ∃ k : Nat, x = k ∧ k < 2 ^ n := by
  unfold isM inR
  rw [decide_eq_true_eq]
  have hp : (2 : Int) ^ n = ((2 ^ n : Nat) : Int) := by push_cast; rfl
  rw [hp]
  constructor
  · rintro ⟨h1, h2⟩
    obtain ⟨k, rfl⟩ := Int.eq_ofNat_of_zero_le h1
    exact ⟨k, rfl, by omega⟩
  · rintro ⟨k, rfl, h⟩
    omega
theorem all_isM {n : Nat} {a : List Int} (h : a.all (isM n) = true) : ∃ b : List Nat, a = zs b ∧ ∀ x ∈ b, x < 2 ^ n := by
  induction a with
  | nil => exact ⟨[], rfl, by simp⟩
  | cons x a ih =>
    rw [List.all_cons, Bool.and_eq_true] at h
    obtain ⟨b, e1, h1⟩ := ih h.2
    obtain ⟨k, e, hk⟩ := (isM_iff n x).1 h.1
    refine ⟨k :: b, by rw [e1, e]; rfl, ?_⟩
    intro y hy
    rcases List.mem_cons.1 hy with rfl | hy
    · exact hk
    · exact h1 y hy
theorem isM_all {n : Nat} {b : List Nat} (h : ∀ x ∈ b, x < 2 ^ n) : (zs b).all (isM n) = true := by
  rw [List.all_eq_true]
  intro x hx
  simp only [zs, List.mem_map] at hx
  obtain ⟨y, hy, rfl⟩ := hx
  exact (isM_iff n _).2 ⟨y, rfl, h y hy⟩
theorem pow63 (n : Nat) (h : n ≤ 62) : IntKind.i64.wrap ((2 : Int) ^ n) = 2 ^ n ∧ IntKind.i64.wrap ((2 : Int) ^ n - 1) = 2 ^ n - 1 := by
  have : ∀ j : Fin 63, IntKind.i64.wrap ((2 : Int) ^ (j : Nat)) = (2 : Int) ^ (j : Nat) ∧ IntKind.i64.wrap ((2 : Int) ^ (j : Nat) - 1) = (2 : Int) ^ (j : Nat) - 1 := by decide +kernel
  exact this ⟨n, by omega⟩
--
theorem isMask_any (n : Nat) (x : Int) (w : World) (hn : n ≤ 8) : Calls Try.prog 68 #[.int .i64 n, .int .i64 x] w fun e w' => e = .returned (.bool (isM n x)) ∧ w = w' := by
  have hin : inR (n : Int) 0 30 = true := by simp [inR]; omega
  obtain ⟨e1, e2⟩ := pow63 n (by omega)
  have H1 := hid (fun w2 => inRange_any (n : Int) 0 30 w2)
  have H2 := hid (fun w2 => inRange_any x 0 ((2 : Int) ^ n - 1) w2)
  have hx : isM n x = inR x 0 ((2 : Int) ^ n - 1) := rfl
  rw [hin] at H1
  go_enter Try.func68, Try.ntmps68
  go_wp2_with fail
  refine (H1.out _).mono ?_; rintro e w2 ⟨rfl, rfl⟩
  go_wp2_with fail
  refine (H2.out _).mono ?_; rintro e w2 ⟨rfl, rfl⟩
  go_wp2_with fail
  go_ret
  exact ⟨by rw [hx]; rfl, rfl⟩
--
set_option maxHeartbeats 400000 in
theorem l01Masks_any (n : Nat) (a : List Int) (v : Value) (w : World) (hn : n ≤ 8) (hv : Ints w v a) : Calls Try.prog 56 #[.int .i64 n, v] w fun e w' => e = .returned (.bool (a.all (isM n))) ∧ Keeps w w' := by
  have hv0 := hv
  obtain ⟨p, cap, rfl, hle, hmx, _, hlen⟩ := hv
  unfold maxLen at hmx
  have H1 := hid (fun w2 => l01Full_any (n : Int) w2 (by omega) (by omega))
  simp only [Int.toNat_natCast] at H1
  have hx : ∀ x, isM n x = inR x 0 ((2 : Int) ^ n - 1) := fun _ => rfl
  have HX := hid hx; clear hx
  generalize (2 : Int) ^ n - 1 = P at *
  go_enter Try.func56, Try.ntmps56
  go_wp2
  go_loopw [4, 5] (fun r i' wr => ∃ i : Nat, i ≤ a.length ∧ i' = .int .i64 i ∧ r = .bool false ∧ (∀ j (h : j < a.length), j < i → isM n a[j] = true) ∧ Keeps w wr) (fun _ i _ => a.length - (intOf i).toNat)
  case atStart => exact ⟨0, by omega, rfl, rfl, fun j _ h => by omega, Keeps.refl _⟩
  case round =>
    obtain ⟨i, hi, rfl, rfl, hall, kw⟩ := hrel
    have HA := hid hall; clear hall
    by_cases hlt : i < a.length
    · have hlt' : (i : Int) < a.length := by omega
      obtain ⟨_, _, e1, _, _, hat, _⟩ := hv0.keeps kw
      cases e1
      obtain ⟨b1, o1, rfl, h1⟩ := hat.int i hlt
      clear hat hv0
      have H2 := hid (fun w2 => l01In_any a[i] 0 P w2)
      cases hb : isM n a[i]
      all_goals
        have hb' := hb
        rw [HX.out] at hb
        rw [hb] at H2
        have HB := hid hb'; clear hb hb'
        go_wp2_with fail
        go_quiet (first | (go_at_call 96; refine quietS (H1.out _)) | (go_at_call 90; refine quietS (H2.out _)))
        go_wp2
      · go_ret
        refine ⟨ret_bool ?_, kw.drewN _⟩
        symm
        rw [Bool.eq_false_iff]
        intro h
        have := List.all_eq_true.1 h a[i] (List.getElem_mem hlt)
        rw [HB.out] at this; cases this
      · go_roundw
        case rel => exact ⟨i + 1, by omega, by go_num, rfl, fun j h hj => by
          by_cases e : j = i
          · subst e; exact HB.out
          · exact HA.out j h (by omega), kw.drewN _⟩
        case measure => simp [intOf]; omega
    · have hlt' : ¬ (i : Int) < a.length := by omega
      go_wp2
      go_ret
      refine ⟨ret_bool ?_, kw⟩
      symm
      rw [List.all_eq_true]
      intro x hx
      obtain ⟨j, hj, rfl⟩ := List.getElem_of_mem hx
      exact HA.out j hj (by omega)
--
set_option maxHeartbeats 400000 in
theorem indexFuncI (pr : Int → Bool) (f : FuncId) (cp : Array Value) (a : List Int) (v : Value) (w : World) (hv : Ints w v a) (hcf : Enters f)
    (hf : ∀ x w1, x ∈ a → Keeps w w1 → Calls Try.prog f (#[.int .i64 x] ++ cp) w1 fun e w2 => e = .returned (.bool (pr x)) ∧ Keeps w1 w2) :
    Calls Try.prog 94 #[v, .func (.func f) #[] cp] w fun e w' => e = .returned (.int .i64 (idxOf pr a 0)) ∧ Keeps w w' := by
  have hv0 := hv
  obtain ⟨p, cap, rfl, hle, hmx, _, hlen⟩ := hv
  unfold maxLen at hmx
  have HF := hid hf; clear hf
  have hcf' : ∀ args w, (callFunc f args).run Try.prog w = .ok (.enter f args) w := hcf
  clear hcf
  go_enter Try.func94, Try.ntmps94
  go_wp2
  go_loopw [4, 8] (fun r i' wr => ∃ k : Nat, k ≤ a.length ∧ idxOf pr a 0 = idxOf pr (a.drop k) k ∧ Keeps w wr ∧ i' = .int .i64 k ∧ r = .int .i64 0) (fun _ i _ => a.length - (intOf i).toNat)
  case atStart => exact ⟨0, by omega, by simp, Keeps.refl w, rfl, rfl⟩
  case round =>
    obtain ⟨k, hk, hs, kw, rfl, rfl⟩ := hrel
    have Hs := hid hs; clear hs
    by_cases hlt : k < a.length
    · have hlt' : (k : Int) < a.length := by omega
      obtain ⟨_, _, e1, _, _, hat, _⟩ := hv0.keeps kw
      cases e1
      obtain ⟨b, off, rfl, h1⟩ := hat.int k hlt
      have hd := hid (idxOf_drop pr a k hlt)
      clear hv0 hat
      cases hp : pr a[k]
      all_goals
        have Hp := hid hp; clear hp
        go_wp2_with ((with_reducible refine (HF.out a[k] wr (List.getElem_mem hlt) kw).mono ?_); rintro e w2 ⟨rfl, k2⟩; rw [Hp.out])
      · go_roundw
        case rel => exact ⟨k + 1, by omega, by rw [Hs.out, hd.out, Hp.out]; rfl, kw.trans k2, by go_num, rfl⟩
        case measure => simp [intOf]; omega
      · go_ret
        exact ⟨ret_int (by rw [Hs.out, hd.out, Hp.out]; rfl), kw.trans k2⟩
    · have hlt' : ¬ (k : Int) < a.length := by omega
      go_wp2
      go_ret
      exact ⟨ret_int (by rw [Hs.out, idxOf_end _ _ _ (by omega)]), kw⟩
--
theorem containsFuncI (pr : Int → Bool) (f : FuncId) (cp : Array Value) (a : List Int) (v : Value) (w : World) (hv : Ints w v a) (hcf : Enters f)
    (hf : ∀ x w1, x ∈ a → Keeps w w1 → Calls Try.prog f (#[.int .i64 x] ++ cp) w1 fun e w2 => e = .returned (.bool (pr x)) ∧ Keeps w1 w2) :
    Calls Try.prog 51 #[v, .func (.func f) #[] cp] w fun e w' => e = .returned (.bool (a.any pr)) ∧ Keeps w w' := by
  have H := hid (indexFuncI pr f cp a v w hv hcf hf)
  clear hv hf hcf
  have he := hid (idxOf_any pr a 0)
  go_enter Try.func51, Try.ntmps51
  go_wp2_with (go_at_call 94; refine H.out.mono ?_; rintro e w2 ⟨rfl, k2⟩)
  go_ret
  exact ⟨ret_bool he.out, k2⟩
--
theorem sizeI_any (a : List Int) (v : Value) (w : World) (hv : Ints w v a) : Calls Try.prog 54 #[v] w fun e w' => e = .returned (.int .i64 a.length) ∧ w = w' := by
  obtain ⟨p, cap, rfl, hle, hmx, _, hlen⟩ := hv
  unfold maxLen at hmx
  go_enter Try.func54, Try.ntmps54
  go_wp2
  go_ret
  exact ⟨rfl, rfl⟩
--
theorem isRelation_1_any (x : Int) (a : List Int) (B : Nat) (v : Value) (w : World) (hv : Ints w v a) (hl : a.length ≤ 8) (hc : w.cell? ⟨B, 0, none⟩ = some v) :
    Calls Try.prog 100 #[.int .i64 x, .pointer (some ⟨B, 0, none⟩)] w fun e w' => e = .returned (.bool (!isM a.length x)) ∧ Keeps w w' := by
  have H1 := hid (sizeI_any a v w hv)
  have H2 := hid (isMask_any a.length x w hl)
  obtain ⟨p, cap, rfl, hle, hmx, _, hlen⟩ := hv
  go_enter Try.func100, Try.ntmps100
  go_wp2_with fail
  refine H1.out.mono ?_; rintro e w2 ⟨rfl, rfl⟩
  go_wp2_with fail
  refine H2.out.mono ?_; rintro e w2 ⟨rfl, rfl⟩
  go_wp2_with fail
  go_ret
  exact ⟨rfl, Keeps.refl _⟩
theorem enters_isRelation_1 : Enters 100 := fun _ _ => by kernel_rfl
theorem isRelation_any (a : List Int) (v : Value) (w : World) (hv : Ints w v a) (hl : a.length ≤ 8) : Calls Try.prog 92 #[v] w fun e w' => e = .returned (.bool (a.all (isM a.length))) ∧ Keeps w w' := by
  have kA := (Keeps.refl w).alloc (.cells #[v] 22)
  have hc : (w.alloc (.cells #[v] 22)).cell? ⟨w.heap.size, 0, none⟩ = some v := by simp
  have hva := hv.keeps kA
  have HC := hid (containsFuncI (fun x => !isM a.length x) 100 #[.pointer (some ⟨w.heap.size, 0, none⟩)] a v (w.alloc (.cells #[v] 22)) hva enters_isRelation_1 (fun x w1 _ k1 => isRelation_1_any x a w.heap.size v w1 (hva.keeps k1) hl (k1.cell hc)))
  have he : (!(a.any fun x => !isM a.length x)) = a.all (isM a.length) := by rw [List.all_eq_not_any_not]
  have HE := hid he; clear he
  clear hc hva
  obtain ⟨p, cap, rfl, hle, hmx, _, hlen⟩ := hv
  go_enter Try.func92, Try.ntmps92
  go_wp2_with fail
  refine HC.out.mono ?_; rintro e w2 ⟨rfl, k2⟩
  go_wp2_with fail
  go_ret
  exact ⟨by rw [HE.out]; rfl, kA.trans k2⟩
--
theorem cloneI_any (a : List Int) (v : Value) (w : World) (hv : Ints w v a) : Calls Try.prog 29 #[v] w (RetI w a) := by
  have hv0 := hv
  obtain ⟨p, cap, rfl, hle, hmx, hat, hlen⟩ := hv
  have h1 := OwnI.empty w
  have k1 := (Keeps.refl w).alloc (.cells #[] 2)
  cases p with
  | none =>
    have ha : a = [] := by
      cases a with
      | nil => rfl
      | cons x r => obtain ⟨b, o, h, _⟩ := hat.int 0 (by simp); cases h
    subst ha
    have he : (binOp .eql 22 (.slice none 0 cap) (.slice none 0 0)).run Try.prog w = .ok (.bool true) w := by kernel_rfl
    rw [List.length_nil] at *
    go_enter Try.func29, Try.ntmps29
    go_wp2
    go_ret
    exact ⟨_, rfl, OwnI.nil _ _, Keeps.refl _⟩
  | some ad =>
    have hv1 := hv0.keeps k1
    obtain ⟨b, off, ra⟩ := ad
    have he : (binOp .eql 22 (.slice (some ⟨b, off, ra⟩) a.length cap) (.slice none 0 0)).run Try.prog w = .ok (.bool false) w := by kernel_rfl
    clear hat
    go_enter Try.func29, Try.ntmps29
    go_wp2_with (at_builtin; refine appI rfl _ _ rfl w.heap.size _ [] rfl h1 _ a rfl hv1 (by simp) (by simpa using hlen) ?_; intro v1 w1 hv1 hg1 hr1; have k2 : Keeps w w1 := k1.grown hg1 hr1)
    go_ret
    exact ⟨_, rfl, by simpa using hv1, k2⟩
--
set_option maxHeartbeats 400000 in
theorem equalI_any (a b : List Int) (va vb : Value) (w : World) (hva : Ints w va a) (hvb : Ints w vb b) :
    Calls Try.prog 74 #[va, vb] w fun e w' => e = .returned (.bool (decide (a = b))) ∧ Keeps w w' := by
  have hva0 := hva
  have hvb0 := hvb
  obtain ⟨pa, ca, rfl, hlea, hmxa, _, hlena⟩ := hva
  obtain ⟨pb, cb, rfl, hleb, hmxb, _, hlenb⟩ := hvb
  unfold maxLen at hmxa hmxb
  by_cases hl : a.length = b.length
  · have hl' : ((a.length : Int) != (b.length : Int)) = false := by simp [hl]
    have HL := hid hl; clear hl
    go_enter Try.func74, Try.ntmps74
    go_wp2
    go_loopw [4, 13] (fun r i' wr => ∃ k : Nat, k ≤ a.length ∧ a.take k = b.take k ∧ Keeps w wr ∧ i' = .int .i64 k ∧ r = .bool false) (fun _ i _ => a.length - (intOf i).toNat)
    case atStart => exact ⟨0, by omega, rfl, Keeps.refl w, rfl, rfl⟩
    case round =>
      obtain ⟨k, hk, htk, kw, rfl, rfl⟩ := hrel
      have HT := hid htk; clear htk
      clear hl'
      by_cases hlt : k < a.length
      · have hltb : k < b.length := by have := HL.out; omega
        obtain ⟨_, _, e1, _, _, hata, _⟩ := hva0.keeps kw
        obtain ⟨_, _, e2, _, _, hatb, _⟩ := hvb0.keeps kw
        cases e1; cases e2
        obtain ⟨b1, o1, rfl, h1⟩ := hata.int k hlt
        obtain ⟨b2, o2, rfl, h3⟩ := hatb.int k hltb
        clear hata hatb hva0 hvb0
        have hlt' : (k : Int) < a.length := by omega
        have hltb' : (k : Int) < b.length := by omega
        by_cases he : a[k] = b[k]
        · have hd : (a[k] != b[k]) = false := by simp [he]
          have HE := hid he; clear he
          go_wp2_with fail
          go_quiet (fail)
          go_wp2
          go_roundw
          case rel => exact ⟨k + 1, by omega, by rw [List.take_succ_eq_append_getElem hlt, List.take_succ_eq_append_getElem hltb, HT.out, HE.out], kw.drewN _, by go_num, rfl⟩
          case measure => simp [intOf]; omega
        · have hd : (a[k] != b[k]) = true := by simp [he]
          have HE := hid he; clear he
          go_wp2_with fail
          go_quiet (fail)
          go_wp2
          go_ret
          refine ⟨ret_bool ?_, kw.drewN _⟩
          symm; rw [decide_eq_false_iff_not]
          rintro rfl; exact HE.out rfl
      · have hlt' : ¬ (k : Int) < a.length := by omega
        go_wp2
        go_ret
        refine ⟨ret_bool ?_, kw⟩
        symm; rw [decide_eq_true_eq]
        have h1 := HL.out; have h2 := HT.out
        rw [List.take_of_length_le (by omega), List.take_of_length_le (by omega)] at h2
        exact h2
  · have hl' : ((a.length : Int) != (b.length : Int)) = true := by simp; omega
    have HL := hid hl; clear hl
    go_enter Try.func74, Try.ntmps74
    go_wp2
    go_ret
    refine ⟨ret_bool ?_, Keeps.refl _⟩
    symm; rw [decide_eq_false_iff_not]
    rintro rfl; exact HL.out rfl
end Go.Proofs.Ytolepbiepebclaa
