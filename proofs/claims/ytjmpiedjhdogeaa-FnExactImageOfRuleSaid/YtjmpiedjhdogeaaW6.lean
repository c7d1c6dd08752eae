/- Walks: the program's joins, negations and checks of lists. -/
import Derived.Test.YtjmpiedjhdogeaaW5
namespace Go.Proofs.Ytjmpiedjhdogeaa
open Go.RowKit

--
set_option maxHeartbeats 400000 in
theorem join_any (k : Int) (a b : List Nd) (va vb : Value) (w : World) (hva : Nds w va a) (hvb : Nds w vb b) (hl : 1 + a.length + b.length ≤ 2147483648) :
    Calls Try.prog 53 #[.int .i64 k, va, vb] w (RetN w (⟨k, 0⟩ :: (a ++ b))) := by
  obtain ⟨pa, na, ca, rfl⟩ := hva.shape
  obtain ⟨pb, nb, cb, rfl⟩ := hvb.shape
  have k1 := (Keeps.refl w).alloc (.cells #[.int .i64 k, .int .i64 0] 81)
  have h1 := (OwnN.lit1 w ⟨k, 0⟩).nds (by simp)
  have h2 := NdsL.lit3N (N := w.heap.size + 1) (by simp) h1 (hva.keeps k1) (hvb.keeps k1)
  have k2 := k1.alloc (.cells #[.slice (some ⟨w.heap.size, 0, none⟩) 1 1, .slice pa na ca, .slice pb nb cb] 25)
  have hfl : fl [[⟨k, 0⟩], a, b] [[⟨k, 0⟩], a, b].length = ⟨k, 0⟩ :: (a ++ b) := by simp [fl]
  have hfl2 : (fl [[⟨k, 0⟩], a, b] [[(⟨k, 0⟩ : Nd)], a, b].length).length ≤ 2147483648 := by rw [hfl]; simp; omega
  have hc := concatN_any _ _ _ h2 hfl2
  rw [hfl] at hc
  have HC := hid hc
  clear hfl2 h1 h2 hfl hc
  go_enter Try.func53, Try.ntmps53
  go_wp2_with (go_at_call 99; go_must (refine HC.out.mono ?_); rintro e w3 ⟨v3, rfl, hv3, k3⟩)
  go_ret
  exact ⟨_, rfl, hv3.mono k2.size, k2.trans k3⟩
--
set_option maxHeartbeats 400000 in
theorem indexFuncL (pr : List Nd → Bool) (f : FuncId) (cp : Array Value) (a : List (List Nd)) (v : Value) (w : World) (hv : NdsL w v a) (hcf : Enters f)
    (hf : ∀ x u w1, x ∈ a → Keeps w w1 → Nds w1 u x → Calls Try.prog f (#[u] ++ cp) w1 fun e w2 => e = .returned (.bool (pr x)) ∧ Keeps w1 w2) :
    Calls Try.prog 151 #[v, .func (.func f) #[] cp] w fun e w' => e = .returned (.int .i64 (idxOf pr a 0)) ∧ Keeps w w' := by
  have hv0 := hv
  obtain ⟨p, cap, rfl, hle, hmx, hlen, _⟩ := hv
  unfold maxLen at hmx
  have HF := hid hf; clear hf
  have hcf' : ∀ args w, (callFunc f args).run Try.prog w = .ok (.enter f args) w := hcf
  clear hcf
  go_enter Try.func151, Try.ntmps151
  go_wp2
  go_loopw [4, 8] (fun r i' wr => ∃ k : Nat, k ≤ a.length ∧ idxOf pr a 0 = idxOf pr (a.drop k) k ∧ Keeps w wr ∧ i' = .int .i64 k ∧ r = .int .i64 0) (fun _ i _ => a.length - (intOf i).toNat)
  case atStart => exact ⟨0, by omega, by simp, Keeps.refl w, rfl, rfl⟩
  case round =>
    obtain ⟨k, hk, hs, kw, rfl, rfl⟩ := hrel
    have Hs := hid hs; clear hs
    by_cases hlt : k < a.length
    · obtain ⟨b, off, u, rfl, h1, hu⟩ := (hv0.keeps kw).get k hlt
      have hd := hid (idxOf_drop pr a k hlt)
      clear hv0
      cases hp : pr a[k]
      all_goals
        have Hp := hid hp; clear hp
        go_wp2_with ((with_reducible refine (HF.out a[k] u wr (List.getElem_mem hlt) kw hu).mono ?_); rintro e w2 ⟨rfl, k2⟩; rw [Hp.out])
      · go_roundw
        case rel => exact ⟨k + 1, by omega, by rw [Hs.out, hd.out, Hp.out]; rfl, kw.trans k2, by go_num, rfl⟩
        case measure => simp [intOf]; omega
      · go_ret
        exact ⟨ret_int (by rw [Hs.out, hd.out, Hp.out]; rfl), kw.trans k2⟩
    · go_wp2
      go_ret
      exact ⟨ret_int (by rw [Hs.out, idxOf_end _ _ _ (by omega)]), kw⟩
theorem containsFuncL (pr : List Nd → Bool) (f : FuncId) (cp : Array Value) (a : List (List Nd)) (v : Value) (w : World) (hv : NdsL w v a) (hcf : Enters f)
    (hf : ∀ x u w1, x ∈ a → Keeps w w1 → Nds w1 u x → Calls Try.prog f (#[u] ++ cp) w1 fun e w2 => e = .returned (.bool (pr x)) ∧ Keeps w1 w2) :
    Calls Try.prog 96 #[v, .func (.func f) #[] cp] w fun e w' => e = .returned (.bool (a.any pr)) ∧ Keeps w w' := by
  have H := hid (indexFuncL pr f cp a v w hv hcf hf)
  clear hv hf hcf
  have he := hid (idxOf_any pr a 0)
  go_enter Try.func96, Try.ntmps96
  go_wp2_with (go_at_call 151; refine H.out.mono ?_; rintro e w2 ⟨rfl, k2⟩)
  go_ret
  exact ⟨ret_bool he.out, k2⟩
--
theorem areFormulas_1_any (x : List Nd) (u : Value) (w : World) (hu : Nds w u x) : Calls Try.prog 149 #[u] w fun e w' => e = .returned (.bool (!isFm x)) ∧ Keeps w w' := by
  go_enter Try.func149, Try.ntmps149
  go_wp2_with (go_at_call 150; refine (isFormula_any x _ _ hu).mono ?_; rintro e w' ⟨rfl, k1⟩)
  go_ret
  exact ⟨rfl, k1⟩
theorem enters_areFormulas_1 : Enters 149 := fun _ _ => by kernel_rfl
def allFm (l : List (List Nd)) : Bool := !(l.any fun x => !isFm x)
theorem areFormulas_any (l : List (List Nd)) (v : Value) (w : World) (hv : NdsL w v l) :
    Calls Try.prog 95 #[v] w fun e w' => e = .returned (.bool (allFm l)) ∧ Keeps w w' := by
  go_enter Try.func95, Try.ntmps95
  go_wp2_with (go_at_call 96; refine (containsFuncL (fun x => !isFm x) _ #[] l _ _ hv enters_areFormulas_1 (fun x u w1 _ _ hu => areFormulas_1_any x u w1 hu)).mono ?_; rintro e w1 ⟨rfl, k1⟩)
  go_ret
  exact ⟨rfl, k1⟩
--
theorem plainCode_1_any (x : List Nd) (u : Value) (w : World) (hu : Nds w u x) : Calls Try.prog 97 #[u] w fun e w' => e = .returned (.bool (!plainL x)) ∧ Keeps w w' := by
  go_enter Try.func97, Try.ntmps97
  go_wp2_with (go_at_call 98; refine (isPlain_any x _ _ hu).mono ?_; rintro e w' ⟨rfl, k1⟩)
  go_ret
  exact ⟨rfl, k1⟩
theorem enters_plainCode_1 : Enters 97 := fun _ _ => by kernel_rfl
def allPlainL (l : List (List Nd)) : Bool := l.any fun x => !plainL x
def plainErrs (l : List (List Nd)) : Int := if allFm l then (if allPlainL l then 5 else 0) else 1
set_option maxHeartbeats 400000 in
theorem plainCode_any (l : List (List Nd)) (v : Value) (w : World) (hv : NdsL w v l) :
    Calls Try.prog 48 #[v] w fun e w' => e = .returned (.int .i64 (plainErrs l)) ∧ Keeps w w' := by
  have h1 := areFormulas_any l v w hv
  have h2 := fun w1 (k : Keeps w w1) => containsFuncL (fun x => !plainL x) _ #[] l v w1 (hv.keeps k) enters_plainCode_1 (fun x u w1 _ _ hu => plainCode_1_any x u w1 hu)
  have h2' : ∀ w1 (k : Keeps w w1), Calls Try.prog 96 #[v, .func (.func 97) #[] #[]] w1 fun e w' => e = .returned (.bool (allPlainL l)) ∧ Keeps w1 w' := h2
  clear h2
  cases hf : allFm l <;> cases hp : allPlainL l <;> rw [hf] at h1 <;> rw [hp] at h2'
  all_goals
    have Hf := hid hf; clear hf
    have Hp := hid hp; clear hp
    have H1 := hid h1; clear h1
    have H2 := hid h2'; clear h2'
    go_enter Try.func48, Try.ntmps48
    go_wp2_with (first | (go_at_call 95; refine H1.out.mono ?_; rintro e w1 ⟨rfl, k1⟩) | (go_at_call 96; refine (H2.out _ k1).mono ?_; rintro e w2 ⟨rfl, k2⟩))
    go_ret
    refine ⟨ret_int (by simp [plainErrs, Hf.out, Hp.out]), ?_⟩
    first | exact k1.trans k2 | exact k1
end Go.Proofs.Ytjmpiedjhdogeaa
