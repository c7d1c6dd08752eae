/- Substitutions on both sides: images of formulas and of lists of formulas, errors of substitutions. -/
import Derived.Test.YtodeecmhcfbheaaGreatGN1
import Derived.Test.YtodeecmhcfbheaaGreatGV1
import Derived.Test.YtodeecmhcfbheaaGreatGSH
import Derived.Test.YtodeecmhcfbheaaGreatGT1
namespace Go.Proofs.YtodeecmhcfbheaaGreat
open Go.RowKit
/-- the image of a node, of a list of nodes -/
def subN (ims : List (List Nd)) (n : Nd) : List Nd := if n.k = 0 then ims.getD n.s.toNat [] else [n]
def sub (ims : List (List Nd)) : List Nd → List Nd
  | [] => []
  | n :: a => subN ims n ++ sub ims a
theorem sub_append (ims : List (List Nd)) (a b : List Nd) : sub ims (a ++ b) = sub ims a ++ sub ims b := by
  induction a with
  | nil => rfl
  | cons n a ih => simp [sub, ih]
theorem sub_take (ims : List (List Nd)) (a : List Nd) (k : Nat) (h : k < a.length) : sub ims (a.take (k + 1)) = sub ims (a.take k) ++ subN ims a[k] := by
  rw [List.take_succ_eq_append_getElem h, sub_append]; simp [sub]
theorem subN_len {ims : List (List Nd)} {M : Nat} (hM : ∀ x ∈ ims, x.length ≤ M) (h1 : 1 ≤ M) (n : Nd) : (subN ims n).length ≤ M := by
  unfold subN
  split
  · rw [List.getD_eq_getElem?_getD]
    cases h : ims[n.s.toNat]? with
    | none => simp
    | some x => exact hM x (List.mem_of_getElem? h)
  · simpa using h1
theorem sub_len {ims : List (List Nd)} {M : Nat} (hM : ∀ x ∈ ims, x.length ≤ M) (h1 : 1 ≤ M) (a : List Nd) : (sub ims a).length ≤ M * a.length := by
  induction a with
  | nil => simp [sub]
  | cons n a ih => have := subN_len hM h1 n; simp only [sub, List.length_append, List.length_cons, Nat.mul_succ]; omega
theorem sub_le (ims : List (List Nd)) (a : List Nd) (k : Nat) : (sub ims (a.take k)).length ≤ (sub ims a).length := by
  have := sub_append ims (a.take k) (a.drop k)
  rw [List.take_append_drop] at this
  rw [this]; simp
theorem sub_step_le (ims : List (List Nd)) (a : List Nd) (k : Nat) (h : k < a.length) : (sub ims (a.take k)).length + (subN ims a[k]).length ≤ (sub ims a).length := by
  have := sub_le ims a (k + 1)
  rw [sub_take ims a k h] at this
  simpa using this
--
set_option maxRecDepth 20000 in
set_option maxHeartbeats 2000000 in
theorem l03Sub_any (ims : List (List Nd)) (a : List Nd) (va vi : Value) (w : World) (hva : Nds w va a) (hvi : NdsL w vi ims) (ha : a.all okNd = true) (h6 : ims.length = 6) (hl : (sub ims a).length ≤ 1000000) :
    Calls Tryz.prog 120 #[va, vi] w (RetN w (sub ims a)) := by
  have h0 := OwnN.empty w
  have k0 := (Keeps.refl w).alloc (.cells #[] 73)
  have hva0 := hva
  have hvi0 := hvi
  obtain ⟨p, cap, rfl, hle, hmx, _, hlen⟩ := hva
  obtain ⟨pi, ci, rfl, hlei, hmxi, _, _⟩ := hvi
  unfold maxLen at hmx hmxi
  rw [h6] at hlei
  go_enter Tryz.func120, Tryz.ntmps120
  go_wp2
  go_loopw [5, 6] (fun o i' wr => ∃ k : Nat, k ≤ a.length ∧ i' = .int .i64 k ∧ OwnN wr w.heap.size o (sub ims (a.take k)) ∧ Keeps w wr) (fun _ i _ => a.length - (intOf i).toNat)
  case atStart => exact ⟨0, by omega, rfl, by simpa [sub] using h0, k0⟩
  case round =>
    obtain ⟨k, hk, rfl, hown, kw⟩ := hrel
    clear h0 k0
    have hsz := kw.size
    by_cases hlt : k < a.length
    · have hlt' : (k : Int) < a.length := by omega
      have hst := sub_take ims a k hlt
      have hsl := sub_step_le ims a k hlt
      obtain ⟨_, _, e1, _, _, hata, _⟩ := hva0.keeps kw
      cases e1
      obtain ⟨b1, o1, rfl, h1, h2⟩ := hata.nd k hlt
      clear hata
      by_cases g : a[k].k = 0
      · obtain ⟨s, hs6, es⟩ := ok_sym ha k hlt g
        have hg : (a[k].k == 0) = true := by simp [g]
        rw [es] at h2
        have hil : s < ims.length := by omega
        obtain ⟨b2, o2, u, e2, hcu, hu⟩ := (hvi0.keeps kw).get s hil
        subst e2
        have hsn : subN ims a[k] = ims[s] := by unfold subN; rw [if_pos g, es, Int.toNat_natCast, List.getD_eq_getElem?_getD, List.getElem?_eq_getElem hil]; rfl
        rw [hsn] at hst hsl
        obtain ⟨p2, n2, q2, rfl⟩ := hu.shape
        have HST := hid hst; clear hst
        have hs6' : (s : Int) < 6 := by omega
        clear hsn g es hva0 hvi0
        go_wp2_with (at_builtin; refine appN rfl _ _ rfl w.heap.size _ _ rfl hown _ _ rfl hu hsz (by omega) ?_; intro v1 w1 hv1 hg1 hr1; have k2 := kw.grown hg1 hr1)
        go_roundw
        case rel => exact ⟨k + 1, by omega, by go_num, by rw [HST.out]; exact hv1, k2⟩
        case measure => simp [intOf]; omega
      · have hg : (a[k].k == 0) = false := by simp [g]
        have hsn : subN ims a[k] = [a[k]] := by unfold subN; rw [if_neg g]
        rw [hsn] at hst hsl
        have HST := hid hst; clear hst
        have hlit := (OwnN.lit1 wr a[k]).nds (by simp)
        have kb := (Keeps.refl wr).alloc (.cells #[.int .i64 a[k].k, .int .i64 a[k].s] 73)
        simp only [List.length_cons, List.length_nil] at hsl
        clear hsn g hva0 hvi0
        go_wp2_with (at_builtin; refine appN rfl _ _ rfl w.heap.size _ _ rfl (hown.keeps kb) _ _ rfl hlit (by simp; omega) (by simp; omega) ?_; intro v1 w1 hv1 hg1 hr1; have k2 := (kw.trans kb).grown hg1 hr1)
        go_roundw
        case rel => exact ⟨k + 1, by omega, by go_num, by rw [HST.out]; exact hv1, k2⟩
        case measure => simp [intOf]; omega
    · go_wp2
      go_ret
      rw [List.take_of_length_le (by omega)] at hown
      exact ⟨_, rfl, hown, kw⟩
--
set_option maxRecDepth 20000 in
set_option maxHeartbeats 2000000 in
theorem withImages_1_any (ims : List (List Nd)) (a : List Nd) (va vi : Value) (b : Nat) (w : World) (hva : Nds w va a) (hvi : NdsL w vi ims) (hb : w.cell? ⟨b, 0, none⟩ = some vi) (ha : a.all okNd = true) (h6 : ims.length = 6) (hl : (sub ims a).length ≤ 1000000) :
    Calls Tryz.prog 227 #[va, .pointer (some ⟨b, 0, none⟩)] w (RetN w (sub ims a)) := by
  have h0 := OwnN.nil w w.heap.size
  have hva0 := hva
  have hvi0 := hvi
  obtain ⟨p, cap, rfl, hle, hmx, _, hlen⟩ := hva
  obtain ⟨pi, ci, rfl, hlei, hmxi, _, _⟩ := hvi
  unfold maxLen at hmx hmxi
  rw [h6] at hlei hb
  go_enter Tryz.func227, Tryz.ntmps227
  go_wp2
  go_loopw [4, 9] (fun o i' wr => ∃ k : Nat, k ≤ a.length ∧ i' = .int .i64 k ∧ OwnN wr w.heap.size o (sub ims (a.take k)) ∧ Keeps w wr) (fun _ i _ => a.length - (intOf i).toNat)
  case atStart => exact ⟨0, by omega, rfl, by simpa [sub] using h0, Keeps.refl w⟩
  case round =>
    obtain ⟨k, hk, rfl, hown, kw⟩ := hrel
    clear h0
    have hsz := kw.size
    by_cases hlt : k < a.length
    · have hlt' : (k : Int) < a.length := by omega
      have hst := sub_take ims a k hlt
      have hsl := sub_step_le ims a k hlt
      obtain ⟨_, _, e1, _, _, hata, _⟩ := hva0.keeps kw
      cases e1
      obtain ⟨b1, o1, rfl, h1, h2⟩ := hata.nd k hlt
      clear hata
      have kb := (Keeps.refl wr).alloc (.cells #[.int .i64 a[k].k, .int .i64 a[k].s] 73)
      have hbk := kb.cell (kw.cell hb)
      by_cases g : a[k].k = 0
      · obtain ⟨s, hs6, es⟩ := ok_sym ha k hlt g
        have hg : (a[k].k == 0) = true := by simp [g]
        have hil : s < ims.length := by omega
        obtain ⟨b2, o2, u, e2, hcu, hu⟩ := ((hvi0.keeps kw).keeps kb).get s hil
        subst e2
        have hsn : subN ims a[k] = ims[s] := by unfold subN; rw [if_pos g, es, Int.toNat_natCast, List.getD_eq_getElem?_getD, List.getElem?_eq_getElem hil]; rfl
        rw [hsn] at hst hsl
        rw [es] at h2 kb hbk hcu hu
        obtain ⟨p2, n2, q2, rfl⟩ := hu.shape
        have HST := hid hst; clear hst
        have hs6' : (s : Int) < 6 := by omega
        clear hsn g es hva0 hvi0 hb
        go_wp2_with (at_builtin; refine appN rfl _ _ rfl w.heap.size _ _ rfl (hown.keeps kb) _ _ rfl hu (by simp; omega) (by omega) ?_; intro v1 w1 hv1 hg1 hr1; have k2 := (kw.trans kb).grown hg1 hr1)
        go_roundw
        case rel => exact ⟨k + 1, by omega, by go_num, by rw [HST.out]; exact hv1, k2⟩
        case measure => simp [intOf]; omega
      · have hg : (a[k].k == 0) = false := by simp [g]
        have hsn : subN ims a[k] = [a[k]] := by unfold subN; rw [if_neg g]
        rw [hsn] at hst hsl
        have HST := hid hst; clear hst
        have hlit := (OwnN.lit1 (wr.alloc (.cells #[.int .i64 a[k].k, .int .i64 a[k].s] 73)) a[k]).nds (by simp)
        rw [show (wr.alloc (.cells #[.int .i64 a[k].k, .int .i64 a[k].s] 73)).heap.size = wr.heap.size + 1 by simp] at hlit
        have kb2 := kb.alloc (.cells #[.int .i64 a[k].k, .int .i64 a[k].s] 73)
        simp only [List.length_cons, List.length_nil] at hsl
        clear hsn g hva0 hvi0 hb
        go_wp2_with (at_builtin; refine appN rfl _ _ rfl w.heap.size _ _ rfl (hown.keeps kb2) _ _ rfl hlit (by simp; omega) (by simp; omega) ?_; intro v1 w1 hv1 hg1 hr1; have k2 := (kw.trans kb2).grown hg1 hr1)
        go_roundw
        case rel => exact ⟨k + 1, by omega, by go_num, by rw [HST.out]; exact hv1, k2⟩
        case measure => simp [intOf]; omega
    · go_wp2
      go_ret
      rw [List.take_of_length_le (by omega)] at hown
      exact ⟨_, rfl, hown, kw⟩
--
theorem withImages_any (v : Value) (w : World) (h1 : ∃ p n c, v = .slice p n c) :
    Calls Tryz.prog 189 #[v] w fun e w' => e = .returned (.func (.func 227) #[] #[.pointer (some ⟨w.heap.size, 0, none⟩)]) ∧ w' = w.alloc (.cells #[v] 35) := by
  obtain ⟨p, n, c, rfl⟩ := h1
  go_enter Tryz.func189, Tryz.ntmps189
  go_wp2
  go_ret
  exact ⟨rfl, rfl⟩
--
set_option maxRecDepth 20000 in
set_option maxHeartbeats 1000000 in
theorem substitute_any (ims : List (List Nd)) (a : List Nd) (va vi : Value) (w : World) (hva : Nds w va a) (hvi : NdsL w vi ims) (ha : a.all okNd = true) (h6 : ims.length = 6) (hl : (sub ims a).length ≤ 1000000) :
    Calls Tryz.prog 108 #[va, vi] w (RetN w (sub ims a)) := by
  obtain ⟨p1, n1, q1, rfl⟩ := agg_shape hvi
  obtain ⟨p2, n2, q2, rfl⟩ := hva.shape
  have kb := (Keeps.refl w).alloc (.cells #[.slice p1 n1 q1] 35)
  have HW := hid (withImages_any (.slice p1 n1 q1) w ⟨_, _, _, rfl⟩)
  have HS := hid (withImages_1_any ims a _ _ w.heap.size _ (hva.keeps kb) (hvi.keeps kb) (by simp) ha h6 hl)
  clear hva hvi
  go_enter Tryz.func108, Tryz.ntmps108
  go_wp2_with fail
  refine HW.out.mono ?_; rintro e w' ⟨rfl, rfl⟩
  go_wp2_with fail
  refine HS.out.mono ?_; rintro e w2 ⟨v2, rfl, hv2, k2⟩
  go_wp2_with fail
  go_ret
  exact ⟨_, rfl, hv2.mono (by simp), kb.trans k2⟩
end Go.Proofs.YtodeecmhcfbheaaGreat
/- Errors of substitutions and rules on both sides; images of lists. -/
namespace Go.Proofs.YtodeecmhcfbheaaGreat
open Go.RowKit
def isSub (l : List (List Nd)) : Bool := allFm l && decide (l.length = 6)
--
set_option maxRecDepth 20000 in
set_option maxHeartbeats 1000000 in
theorem l03Is_any (l : List (List Nd)) (v : Value) (w : World) (hv : NdsL w v l) : Calls Tryz.prog 169 #[v] w fun e w' => e = .returned (.bool (isSub l)) ∧ w = w' := by
  have hv0 := hv
  obtain ⟨p, cap, rfl, hle, hmx, hlm, _⟩ := hv
  unfold maxLen at hmx
  go_enter Tryz.func169, Tryz.ntmps169
  go_wp2
  go_loop [2, 3] (fun r i' => ∃ k : Nat, k ≤ l.length ∧ i' = .int .i64 k ∧ r = .bool false ∧ ∀ j (h : j < l.length), j < k → isFm l[j] = true) (fun _ i => l.length - (intOf i).toNat)
  case atStart => exact ⟨0, by omega, rfl, rfl, fun j h hj => by omega⟩
  case round =>
    obtain ⟨k, hk, rfl, rfl, hs⟩ := hrel
    have Hs := hid hs; clear hs
    by_cases hlt : k < l.length
    · obtain ⟨b, off, u, rfl, hc, hu⟩ := hv0.get k hlt
      have hlt' : (k : Int) < l.length := by omega
      have HF := hid (l02Is_any l[k] u w hu)
      obtain ⟨p1, n1, q1, rfl⟩ := hu.shape
      clear hu hv0
      cases hf : isFm l[k]
      · rw [hf] at HF
        have Hf := hid hf; clear hf
        go_wp2_with fail
        refine HF.out.mono ?_; rintro e w' ⟨rfl, rfl⟩
        go_wp2_with fail
        go_ret
        refine ⟨ret_bool ?_, rfl⟩
        have h1 : l.any (fun x => !isFm x) = true := List.any_eq_true.2 ⟨_, List.getElem_mem hlt, by rw [Hf.out]; rfl⟩
        simp [isSub, allFm, h1]
      · rw [hf] at HF
        have Hf := hid hf; clear hf
        go_wp2_with fail
        refine HF.out.mono ?_; rintro e w' ⟨rfl, rfl⟩
        go_wp2_with fail
        go_round
        case rel => exact ⟨k + 1, by omega, by go_num, rfl, fun j h hj => by
          by_cases e : j = k
          · subst e; exact Hf.out
          · exact Hs.out j h (by omega)⟩
        case measure => simp [intOf]; omega
    · have hall : allFm l = true := by
        unfold allFm
        rw [Bool.not_eq_true', Bool.eq_false_iff]; intro h
        obtain ⟨x, hx, h2⟩ := List.any_eq_true.1 h
        obtain ⟨j, hj, rfl⟩ := List.getElem_of_mem hx
        rw [Hs.out j hj (by omega)] at h2; cases h2
      have HA := hid hall; clear hall
      have hbb : ((l.length : Int) == 6) = decide (l.length = 6) := by
        by_cases h : l.length = 6
        · simp [h]
        · rw [decide_eq_false h]; simp; omega
      have HB := hid hbb; clear hbb
      go_wp2
      go_ret
      exact ⟨ret_bool (by rw [isSub, HA.out, Bool.true_and]; exact HB.out), rfl⟩
--
set_option maxRecDepth 20000 in
set_option maxHeartbeats 1000000 in
theorem isSubstitution_any (l : List (List Nd)) (v : Value) (w : World) (hv : NdsL w v l) : Calls Tryz.prog 164 #[v] w fun e w' => e = .returned (.bool (isSub l)) ∧ Keeps w w' := by
  have HF := hid (areFormulas_any l v w hv)
  obtain ⟨p, cap, rfl, hle, hmx, hlm, _⟩ := hv
  unfold maxLen at hmx
  by_cases h : l.length = 6
  · have hb : ((l.length : Int) == 6) = true := by simp [h]
    have H := hid h; clear h
    go_enter Tryz.func164, Tryz.ntmps164
    go_wp2_with fail
    refine HF.out.mono ?_; rintro e w2 ⟨rfl, k2⟩
    go_wp2_with fail
    go_ret
    exact ⟨ret_bool (by simp [isSub, H.out]), k2⟩
  · have hb : ((l.length : Int) == 6) = false := by simp; omega
    have H := hid h; clear h
    go_enter Tryz.func164, Tryz.ntmps164
    go_wp2_with fail
    go_ret
    exact ⟨ret_bool (by simp [isSub, H.out]), Keeps.refl _⟩
--
theorem allPlain_1_any (x : List Nd) (u : Value) (w : World) (hu : Nds w u x) : Calls Tryz.prog 216 #[u] w fun e w' => e = .returned (.bool (!plainL x)) ∧ Keeps w w' := by
  have HP := hid (isPlain_any x u w hu)
  obtain ⟨p, n, c, rfl⟩ := hu.shape
  go_enter Tryz.func216, Tryz.ntmps216
  go_wp2_with fail
  refine HP.out.mono ?_; rintro e w2 ⟨rfl, k2⟩
  go_wp2_with fail
  go_ret
  exact ⟨rfl, k2⟩
theorem enters_allPlain_1 : Enters 216 := fun _ _ => by kernel_rfl
theorem allPlain_any (l : List (List Nd)) (v : Value) (w : World) (hv : NdsL w v l) : Calls Tryz.prog 165 #[v] w fun e w' => e = .returned (.bool (!allPlainL l)) ∧ Keeps w w' := by
  have HC := hid (containsFuncL (fun x => !plainL x) 216 #[] l v w hv enters_allPlain_1 (fun x u w1 _ _ h => allPlain_1_any x u w1 h))
  obtain ⟨p, cap, rfl, _⟩ := hv
  go_enter Tryz.func165, Tryz.ntmps165
  go_wp2_with fail
  refine HC.out.mono ?_; rintro e w2 ⟨rfl, k2⟩
  go_wp2_with fail
  go_ret
  exact ⟨rfl, k2⟩
/-- the error for formulas whose error is known, and a substitution -/
def imgErr (one : Int) (l : List (List Nd)) : Int := if one = 1 ∨ isSub l = false then 1 else if one ≠ 0 ∨ allPlainL l = true then 5 else 0
--
set_option maxRecDepth 20000 in
set_option maxHeartbeats 1000000 in
theorem imagesCode_any (one : Int) (l : List (List Nd)) (v : Value) (w : World) (hv : NdsL w v l) : Calls Tryz.prog 77 #[.int .i64 one, v] w fun e w' => e = .returned (.int .i64 (imgErr one l)) ∧ Keeps w w' := by
  have HS := hid (isSubstitution_any l v w hv)
  have HP := hid (fun w2 (k : Keeps w w2) => allPlain_any l v w2 (hv.keeps k))
  obtain ⟨p, cap, rfl, _⟩ := hv
  by_cases h1 : one = 1
  · subst h1
    go_enter Tryz.func77, Tryz.ntmps77
    go_wp2_with fail
    go_ret
    exact ⟨ret_int (by simp [imgErr]), Keeps.refl _⟩
  · have hb1 : (one == 1) = false := by simp [h1]
    have H1 := hid h1; clear h1
    cases hs : isSub l
    · rw [hs] at HS
      have Hs := hid hs; clear hs
      go_enter Tryz.func77, Tryz.ntmps77
      go_wp2_with fail
      refine HS.out.mono ?_; rintro e w2 ⟨rfl, k2⟩
      go_wp2_with fail
      go_ret
      exact ⟨ret_int (by simp [imgErr, Hs.out]), k2⟩
    · rw [hs] at HS
      have Hs := hid hs; clear hs
      by_cases h0 : one = 0
      · have hb0 : (one != 0) = false := by simp [h0]
        have H0 := hid h0; clear h0
        cases hp : allPlainL l
        all_goals
          rw [hp] at HP
          have Hp := hid hp; clear hp
          go_enter Tryz.func77, Tryz.ntmps77
          go_wp2_with fail
          refine HS.out.mono ?_; rintro e w2 ⟨rfl, k2⟩
          go_wp2_with fail
          refine (HP.out _ k2).mono ?_; rintro e w3 ⟨rfl, k3⟩
          go_wp2_with fail
          go_ret
          exact ⟨ret_int (by simp [imgErr, Hs.out, Hp.out, H0.out]), k2.trans k3⟩
      · have hb0 : (one != 0) = true := by simp [h0]
        have H0 := hid h0; clear h0
        go_enter Tryz.func77, Tryz.ntmps77
        go_wp2_with fail
        refine HS.out.mono ?_; rintro e w2 ⟨rfl, k2⟩
        go_wp2_with fail
        go_ret
        exact ⟨ret_int (by simp [imgErr, Hs.out, H0.out, H1.out]), k2⟩
--
def imsErr (l : List (List Nd)) : Int := if isSub l then plainErrs l else 1
theorem l31Images_any (l : List (List Nd)) (v : Value) (w : World) (hv : NdsL w v l) : Calls Tryz.prog 85 #[v] w fun e w' => e = .returned (.int .i64 (imsErr l)) ∧ w = w' := by
  have HS := hid (l03Is_any l v w hv)
  have HP := hid (l31Plain_any l v w hv)
  obtain ⟨p, cap, rfl, _⟩ := hv
  cases hs : isSub l
  · rw [hs] at HS
    have Hs := hid hs; clear hs
    go_enter Tryz.func85, Tryz.ntmps85
    go_wp2_with fail
    refine HS.out.mono ?_; rintro e w' ⟨rfl, rfl⟩
    go_wp2_with fail
    go_ret
    exact ⟨ret_int (by simp [imsErr, Hs.out]), rfl⟩
  · rw [hs] at HS
    have Hs := hid hs; clear hs
    go_enter Tryz.func85, Tryz.ntmps85
    go_wp2_with fail
    refine HS.out.mono ?_; rintro e w' ⟨rfl, rfl⟩
    go_wp2_with fail
    refine HP.out.mono ?_; rintro e w' ⟨rfl, rfl⟩
    go_wp2_with fail
    go_ret
    exact ⟨ret_int (by simp [imsErr, Hs.out]), rfl⟩
--
set_option maxHeartbeats 1000000 in
theorem l31Both_any (one : Int) (l : List (List Nd)) (w : World) (ho : one = 0 ∨ one = 1 ∨ one = 5) : Calls Tryz.prog 83 #[.int .i64 one, .int .i64 (imsErr l)] w fun e w' => e = .returned (.int .i64 (imgErr one l)) ∧ w = w' := by
  have hi : (isSub l = false ∧ imsErr l = 1) ∨ (isSub l = true ∧ allPlainL l = true ∧ imsErr l = 5) ∨ (isSub l = true ∧ allPlainL l = false ∧ imsErr l = 0) := by
    unfold imsErr plainErrs
    cases hs : isSub l
    · simp
    · have : allFm l = true := by simp [isSub] at hs; exact hs.1
      cases hp : allPlainL l <;> simp [this]
  rcases hi with ⟨h1, h2⟩ | ⟨h1, h3, h2⟩ | ⟨h1, h3, h2⟩ <;> rcases ho with rfl | rfl | rfl
  all_goals
    rw [h2]
    have H1 := hid h1; clear h1
    try (have H3 := hid h3; clear h3)
    clear h2
    go_enter Tryz.func83, Tryz.ntmps83
    go_wp2
    go_ret
    refine ⟨ret_int ?_, rfl⟩
    first
    | (simp [imgErr, H1.out]; done)
    | (simp [imgErr, H1.out, H3.out]; done)
/-- the greatest number of nodes of a list -/
def mostL (l : List (List Nd)) : Nat := l.foldl (fun m x => max m x.length) 0
theorem mostL_snoc (l : List (List Nd)) (x : List Nd) : mostL (l ++ [x]) = max (mostL l) x.length := by simp [mostL, List.foldl_append]
theorem fold_max_le (l : List (List Nd)) : ∀ (m n : Nat), (l.foldl (fun m x => max m x.length) m ≤ n ↔ m ≤ n ∧ ∀ x ∈ l, x.length ≤ n) := by
  induction l with
  | nil => intro m n; simp
  | cons y l ih => intro m n; simp only [List.foldl_cons, ih, List.forall_mem_cons]; constructor <;> intro h <;> refine ⟨?_, ?_⟩ <;> (try omega) <;> (try exact ⟨by omega, h.2⟩) <;> (try exact h.2.2)
theorem mostL_le (l : List (List Nd)) (n : Nat) : mostL l ≤ n ↔ ∀ x ∈ l, x.length ≤ n := by unfold mostL; rw [fold_max_le]; simp
--
set_option maxRecDepth 20000 in
set_option maxHeartbeats 2000000 in
theorem l31Image_any (ims l : List (List Nd)) (vl vi : Value) (w : World) (hvl : NdsL w vl l) (hvi : NdsL w vi ims) (ha : ∀ a ∈ l, a.all okNd = true) (h6 : ims.length = 6) (hl : ∀ a ∈ l, (sub ims a).length ≤ 100000) (hll : l.length ≤ 1000) :
    Calls Tryz.prog 86 #[vl, vi] w fun e w' => ∃ v, e = .returned (.tuple #[v, .int .i64 (mostL (l.map (sub ims)))]) ∧ OwnL w' w.heap.size v (l.map (sub ims)) ∧ Keeps w w' := by
  have h0 := OwnL.empty w
  have k0 := (Keeps.refl w).alloc (.cells #[] 24)
  have hvl0 := hvl
  have hvi0 := hvi
  have H6 := hid h6; clear h6
  obtain ⟨p, cap, rfl, hle, hmx, _, hlen⟩ := hvl
  obtain ⟨pi, ni, ci, rfl⟩ := agg_shape hvi
  clear hvi
  unfold maxLen at hmx
  go_enter Tryz.func86, Tryz.ntmps86
  go_wp2
  go_loopw [6, 7, 8, 9] (fun o m i' _ wr => ∃ k : Nat, k ≤ l.length ∧ i' = .int .i64 k ∧ m = .int .i64 (mostL ((l.take k).map (sub ims))) ∧ OwnL wr w.heap.size o ((l.take k).map (sub ims)) ∧ Keeps w wr) (fun _ _ i _ _ => l.length - (intOf i).toNat)
  case atStart => exact ⟨0, by omega, rfl, rfl, by simpa using h0, k0⟩
  case round =>
    obtain ⟨k, hk, rfl, rfl, hown, kw⟩ := hrel
    clear h0 k0
    have hsz := kw.size
    by_cases hlt : k < l.length
    · have hlt' : (k : Int) < l.length := by omega
      have hst : (l.take (k + 1)).map (sub ims) = (l.take k).map (sub ims) ++ [sub ims l[k]] := by rw [List.take_succ_eq_append_getElem hlt, List.map_append]; rfl
      have hms : mostL ((l.take (k + 1)).map (sub ims)) = max (mostL ((l.take k).map (sub ims))) (sub ims l[k]).length := by rw [hst, mostL_snoc]
      obtain ⟨b2, o2, u, e2, hcu, hu⟩ := (hvl0.keeps kw).get k hlt
      subst e2
      obtain ⟨p2, n2, q2, rfl⟩ := hu.shape
      have HST := hid hst; clear hst
      have HMS := hid hms; clear hms
      have HSUB := hid (l03Sub_any ims l[k] _ _ wr hu (hvi0.keeps kw) (ha _ (List.getElem_mem hlt)) H6.out (by have := hl _ (List.getElem_mem hlt); omega))
      have hsl := hl _ (List.getElem_mem hlt)
      have hlen2 : ((l.take k).map (sub ims)).length ≤ 1000 := by simp; omega
      clear hu hvl0 hvi0 hlen
      generalize mostL ((l.take k).map (sub ims)) = M at *
      generalize (l.take k).map (sub ims) = L at *
      go_wp2_with fail
      refine HSUB.out.mono ?_; rintro e w2 ⟨v2, rfl, hv2, k2⟩
      obtain ⟨p3, n3, q3, rfl, hn3⟩ : ∃ p n c, v2 = .slice p n c ∧ n = (sub ims l[k]).length := by obtain ⟨p, c, e, _⟩ := At.of_own hv2; exact ⟨p, _, c, e, rfl⟩
      have HN3 := hid hn3; clear hn3
      have k3 := k2.alloc (.cells #[.slice p3 n3 q3] 24)
      have hv3 := hv2.keeps ((Keeps.refl w2).alloc (.cells #[.slice p3 n3 q3] 24))
      have hat := At.lit1 w2 (.slice p3 n3 q3) 24
      have hn3l : n3 ≤ 100000 := by have := HN3.out; omega
      go_wp2_with (at_builtin; refine appL rfl _ _ rfl w.heap.size _ L rfl wr hown k3 _ _ hv3 hsz _ _ rfl hat (by omega) ?_; intro v4 w4 hv4 hg4 hr4; have k4 := (kw.trans k3).grown hg4 hr4)
      go_roundw
      case rel => exact ⟨k + 1, by omega, by go_num, by rw [HMS.out, ← HN3.out]; first | rfl | (congr 1; omega), by rw [HST.out]; exact hv4, k4⟩
      case measure => simp [intOf]; omega
    · have e : l.take k = l := List.take_of_length_le (by omega)
      rw [e] at hown
      rw [e]
      clear e
      go_wp2
      go_ret2
      exact ⟨_, rfl, hown, kw⟩
end Go.Proofs.YtodeecmhcfbheaaGreat
/- Errors and sizes of rules on both sides; images of rules. -/
namespace Go.Proofs.YtodeecmhcfbheaaGreat
open Go.RowKit
theorem appNil {P : Program} {w : World} {ops : Array Oper} {rest : List Oper} {o : Oper} {a : Act} {Q : Exit → Act → World → Prop} (hgd : o.guard = none) (s x : Operand) (t e : TypeId) (i : TypeInfo)
    (ho : o.op = .call { callee := .builtin .append, args := #[s, x], argTypes := #[t, t] }) (ht : P.underlying t = some (.slice e)) (hi : P.info? e = some i) (p : Option Addr) (n cap c : Nat) (hs : a.eval s = .slice p n cap) (hx : a.eval x = .slice none 0 c) (h : n ≤ cap)
    (hk : wpList P ops Q rest (a.put o.dst (.slice p n cap)) w) : wpList P ops Q (o :: rest) a w :=
  wpList_plain hgd fun _ hK => by
    have hr := run_append_none (P := P) w t o.type e i ht hi p n cap h c
    unfold Oper.wp execOp
    simp only [ho, resolve, invoke, builtin, Sem.run_bind, Sem.run_pure, Result.andThen_ok, List.map_toArray, List.map_cons, List.map_nil, hs, hx, hr]
    exact hK _ _ hk
theorem info_some {P : Program} {e : TypeId} {z : Option Value} {s b : Nat} (h : (P.info? e).map (fun i => (i.zero, i.size, i.bytes)) = some (z, s, b)) : ∃ i, P.info? e = some i := by
  cases hi : P.info? e with
  | none => rw [hi] at h; cases h
  | some i => exact ⟨i, rfl⟩
def ruleErr (xs : List (List Nd)) (c : List Nd) : Int := if 6 < xs.length then 1 else plainErrs (xs ++ [c])
theorem plainErrs_range (l : List (List Nd)) : plainErrs l = 0 ∨ plainErrs l = 1 ∨ plainErrs l = 5 := by
  unfold plainErrs; split
  · split <;> simp
  · simp
theorem ruleErr_range (xs : List (List Nd)) (c : List Nd) : ruleErr xs c = 0 ∨ ruleErr xs c = 1 ∨ ruleErr xs c = 5 := by
  unfold ruleErr; split
  · simp
  · exact plainErrs_range _
--
set_option maxRecDepth 20000 in
set_option maxHeartbeats 1000000 in
theorem l31Code_any (xs : List (List Nd)) (c : List Nd) (v u : Value) (w : World) (hv : NdsL w v xs) (hu : Nds w u c) :
    Calls Tryz.prog 84 #[.agg #[v, u]] w fun e w' => e = .returned (.int .i64 (ruleErr xs c)) ∧ Keeps w w' := by
  have hv0 := hv
  obtain ⟨p, cap, rfl, hle, hmx, hlm, _⟩ := hv
  obtain ⟨pu, nu, cu, rfl⟩ := hu.shape
  unfold maxLen at hmx
  have kb := (Keeps.refl w).alloc (.cells #[.slice p xs.length cap, .slice pu nu cu] 37)
  by_cases h6 : 6 < xs.length
  · have hi6 : (6 : Int) < xs.length := by omega
    go_enter Tryz.func84, Tryz.ntmps84
    go_wp2_with fail
    go_ret
    exact ⟨ret_int (by rw [ruleErr, if_pos h6]), kb⟩
  · have hi6 : ¬ (6 : Int) < xs.length := by omega
    have H6 := hid h6; clear h6
    have HO := hid (l31Of_any xs c _ _ _ (hv0.keeps kb) (hu.keeps kb) (by have := H6.out; omega))
    have HL := hid (show (xs ++ [c]).length ≤ 2147483648 by have := H6.out; simp; omega)
    clear hv0
    go_enter Tryz.func84, Tryz.ntmps84
    go_wp2_with fail
    refine HO.out.mono ?_; rintro e w2 ⟨v2, rfl, hv2, k2⟩
    have hn2 := hv2.ndsL k2 HL.out
    obtain ⟨p2, n2, c2, rfl⟩ := agg_shape hn2
    go_wp2_with fail
    refine (l31Plain_any _ _ _ hn2).mono ?_; rintro e w' ⟨rfl, rfl⟩
    go_wp2_with fail
    go_ret
    exact ⟨ret_int (by rw [ruleErr, if_neg H6.out]), kb.trans k2⟩
theorem NdsL.shapeLe {w : World} {v : Value} {xs : List (List Nd)} (h : NdsL w v xs) : ∃ p n c, v = .slice p n c ∧ n ≤ c := by
  obtain ⟨p, c, e, h1, _⟩ := h
  exact ⟨p, _, c, e, h1⟩
--
set_option maxRecDepth 20000 in
set_option maxHeartbeats 1000000 in
theorem ruleCode_nil (xs : List (List Nd)) (c : List Nd) (v u : Value) (w : World) (hv : NdsL w v xs) (hu : Nds w u c) :
    Calls Tryz.prog 78 #[.agg #[v, u], .slice none 0 0] w fun e w' => e = .returned (.int .i64 (ruleErr xs c)) ∧ Keeps w w' := by
  have hv0 := hv
  obtain ⟨p, cap, rfl, hle, hmx, hlm, _⟩ := hv
  obtain ⟨pu, nu, cu, rfl⟩ := hu.shape
  unfold maxLen at hmx
  have kb := (Keeps.refl w).alloc (.cells #[.slice p xs.length cap, .slice pu nu cu] 37)
  by_cases h6 : 6 < xs.length
  · have hi6 : (6 : Int) < xs.length := by omega
    go_enter Tryz.func78, Tryz.ntmps78
    go_wp2_with fail
    go_ret
    exact ⟨ret_int (by rw [ruleErr, if_pos h6]), kb⟩
  · have hi6 : ¬ (6 : Int) < xs.length := by omega
    have H6 := hid h6; clear h6
    have HO := hid (formulas_any xs c _ _ _ (hv0.keeps kb) (hu.keeps kb) (by have := H6.out; omega))
    have hcl : Tryz.prog.underlying 35 = some (.slice 24) := Tryz.underlying35
    obtain ⟨i0, hi0⟩ := info_some infoL
    clear hv0
    go_enter Tryz.func78, Tryz.ntmps78
    go_wp2_with fail
    refine HO.out.mono ?_; rintro e w2 ⟨v2, rfl, hn2, k2⟩
    obtain ⟨p2, n2, c2, rfl, hle2⟩ := hn2.shapeLe
    have HP := hid (plainCode_any _ _ _ hn2)
    clear hn2
    go_wp2_with (at_builtin; refine appNil rfl _ _ _ _ i0 rfl hcl hi0 p2 n2 c2 0 rfl rfl hle2 ?_)
    refine HP.out.mono ?_; rintro e w3 ⟨rfl, k3⟩
    go_wp2_with fail
    go_ret
    exact ⟨ret_int (by rw [ruleErr, if_neg H6.out]), (kb.trans k2).trans k3⟩
--
set_option maxRecDepth 20000 in
set_option maxHeartbeats 1000000 in
theorem l31Size_any (l : List (List Nd)) (v : Value) (w : World) (hv : NdsL w v l) (ht : tot l ≤ 1000000000) : Calls Tryz.prog 92 #[v] w fun e w' => e = .returned (.int .i64 (tot l)) ∧ w = w' := by
  have hv0 := hv
  obtain ⟨p, cap, rfl, hle, hmx, hlm, _⟩ := hv
  unfold maxLen at hmx
  go_enter Tryz.func92, Tryz.ntmps92
  go_wp2
  go_loop [3, 4] (fun m i' => ∃ k : Nat, k ≤ l.length ∧ i' = .int .i64 k ∧ m = .int .i64 (tot (l.take k))) (fun _ i => l.length - (intOf i).toNat)
  case atStart => exact ⟨0, by omega, rfl, by simp [tot]⟩
  case round =>
    obtain ⟨k, hk, rfl, rfl⟩ := hrel
    by_cases hlt : k < l.length
    · obtain ⟨b, off, u, rfl, hc, hu⟩ := hv0.get k hlt
      have hlt' : (k : Int) < l.length := by omega
      have hst := tot_take l k hlt
      have htm := tot_mem l k hlt
      obtain ⟨p1, c1, rfl, hle1, hmx1, _, hln1⟩ := hu
      have HST := hid hst; clear hst hv0
      go_wp2
      go_round
      case rel => exact ⟨k + 1, by omega, by go_num, by rw [HST.out]; go_num⟩
      case measure => simp [intOf]; omega
    · go_wp2
      go_ret
      exact ⟨ret_int (by rw [List.take_of_length_le (by omega)]), rfl⟩
--
theorem haveSmall_1_any (x : List Nd) (u : Value) (w : World) (hu : Nds w u x) : Calls Tryz.prog 167 #[u] w fun e w' => e = .returned (.bool (decide (20 < x.length))) ∧ Keeps w w' := by
  obtain ⟨p, cap, rfl, hle, hmx, _, hlen⟩ := hu
  go_enter Tryz.func167, Tryz.ntmps167
  go_wp2
  go_ret
  exact ⟨ret_bool (by first | rfl | (apply decide_eq_decide.2; omega)), Keeps.refl _⟩
theorem enters_haveSmall_1 : Enters 167 := fun _ _ => by kernel_rfl
theorem haveSmall_any (l : List (List Nd)) (v : Value) (w : World) (hv : NdsL w v l) : Calls Tryz.prog 80 #[v] w fun e w' => e = .returned (.bool (!(l.any fun x => decide (20 < x.length)))) ∧ Keeps w w' := by
  have HC := hid (containsFuncL (fun x => decide (20 < x.length)) 167 #[] l v w hv enters_haveSmall_1 (fun x u w1 _ _ h => haveSmall_1_any x u w1 h))
  obtain ⟨p, cap, rfl, _⟩ := hv
  go_enter Tryz.func80, Tryz.ntmps80
  go_wp2_with fail
  refine HC.out.mono ?_; rintro e w2 ⟨rfl, k2⟩
  go_wp2_with fail
  go_ret
  exact ⟨rfl, k2⟩
--
set_option maxRecDepth 20000 in
set_option maxHeartbeats 2000000 in
theorem composed_any (ims l : List (List Nd)) (vl vi : Value) (w : World) (hvl : NdsL w vl l) (hvi : NdsL w vi ims) (ha : ∀ a ∈ l, a.all okNd = true) (h6 : ims.length = 6) (hl : ∀ a ∈ l, (sub ims a).length ≤ 100000) (hll : l.length ≤ 1000) :
    Calls Tryz.prog 166 #[vl, vi] w (RetL w (l.map (sub ims))) := by
  have hvl0 := hvl
  have H6 := hid h6; clear h6
  obtain ⟨p, cap, rfl, hle, hmx, _, hlen⟩ := hvl
  obtain ⟨pi, ni, ci, rfl⟩ := agg_shape hvi
  unfold maxLen at hmx
  have kb := (Keeps.refl w).alloc (.cells #[.slice pi ni ci] 35)
  have hcb : (w.alloc (.cells #[.slice pi ni ci] 35)).cell? ⟨w.heap.size, 0, none⟩ = some (.slice pi ni ci) := by simp
  have hvi0 := hvi.keeps kb
  have HW := hid (withImages_any (.slice pi ni ci) w ⟨_, _, _, rfl⟩)
  clear hvi
  go_enter Tryz.func166, Tryz.ntmps166
  go_wp2_with fail
  refine HW.out.mono ?_; rintro e w' ⟨rfl, rfl⟩
  go_wp2_with fail
  go_loopw [6, 8, 13] (fun o _ i' wr => ∃ k : Nat, k ≤ l.length ∧ i' = .int .i64 k ∧ OwnL wr (w.heap.size + 1) o ((l.take k).map (sub ims)) ∧ Keeps (w.alloc (.cells #[.slice pi ni ci] 35)) wr) (fun _ _ i _ => l.length - (intOf i).toNat)
  case atStart => exact ⟨0, by omega, rfl, by simpa using OwnL.nil _ _, Keeps.refl _⟩
  case round =>
    obtain ⟨k, hk, rfl, hown, kw⟩ := hrel
    have hsz := kw.size
    simp at hsz
    by_cases hlt : k < l.length
    · have hlt' : (k : Int) < l.length := by omega
      have hst : (l.take (k + 1)).map (sub ims) = (l.take k).map (sub ims) ++ [sub ims l[k]] := by rw [List.take_succ_eq_append_getElem hlt, List.map_append]; rfl
      obtain ⟨b2, o2, u, e2, hcu, hu⟩ := ((hvl0.keeps kb).keeps kw).get k hlt
      subst e2
      obtain ⟨p2, n2, q2, rfl⟩ := hu.shape
      have HST := hid hst; clear hst
      have HSUB := hid (withImages_1_any ims l[k] _ _ w.heap.size wr hu (hvi0.keeps kw) (kw.cell hcb) (ha _ (List.getElem_mem hlt)) H6.out (by have := hl _ (List.getElem_mem hlt); omega))
      have hsl := hl _ (List.getElem_mem hlt)
      have hlen2 : ((l.take k).map (sub ims)).length ≤ 1000 := by simp; omega
      clear hu hvl0 hvi0 hlen
      generalize (l.take k).map (sub ims) = L at *
      go_wp2_with fail
      refine HSUB.out.mono ?_; rintro e w2 ⟨v2, rfl, hv2, k2⟩
      obtain ⟨p3, n3, q3, rfl⟩ : ∃ p n c, v2 = .slice p n c := by obtain ⟨p, c, e, _⟩ := At.of_own hv2; exact ⟨p, _, c, e⟩
      have k3 := k2.alloc (.cells #[.slice p3 n3 q3] 24)
      have hv3 := hv2.keeps ((Keeps.refl w2).alloc (.cells #[.slice p3 n3 q3] 24))
      have hat := At.lit1 w2 (.slice p3 n3 q3) 24
      go_wp2_with (at_builtin; refine appL rfl _ _ rfl (w.heap.size + 1) _ L rfl wr hown k3 _ _ hv3 hsz _ _ rfl hat (by omega) ?_; intro v4 w4 hv4 hg4 hr4; have k5 := (kw.trans k3).grown hg4 (by simpa using hr4))
      go_roundw
      case rel => exact ⟨k + 1, by omega, by go_num, by rw [HST.out]; exact hv4, k5⟩
      case measure => simp [intOf]; omega
    · have e : l.take k = l := List.take_of_length_le (by omega)
      rw [e] at hown
      clear e
      go_wp2
      go_ret
      exact ⟨_, rfl, hown.mono (by omega), kb.trans kw⟩
end Go.Proofs.YtodeecmhcfbheaaGreat
/- What a lack of errors says: substitutions, rules. -/
namespace Go.Proofs.YtodeecmhcfbheaaGreat
open Go.RowKit
theorem allFm_all {l : List (List Nd)} (h : allFm l = true) : ∀ x ∈ l, isFm x = true := by
  intro x hx
  simp only [allFm, Bool.not_eq_true', List.any_eq_false] at h
  simpa using h x hx
theorem isFm_ok {x : List Nd} (h : isFm x = true) : x.all okNd = true ∧ x.length ≤ 40 := by
  simp only [isFm, isTree, Bool.and_eq_true, decide_eq_true_eq] at h
  exact ⟨h.2.1, h.1⟩
theorem imgErr_zero {one : Int} {ims : List (List Nd)} (h : imgErr one ims = 0) : one = 0 ∧ isSub ims = true ∧ allPlainL ims = false := by
  unfold imgErr at h
  split at h
  · omega
  · rename_i h1
    split at h
    · omega
    · rename_i h2
      refine ⟨by omega, ?_, ?_⟩
      · cases hs : isSub ims with
        | false => exact absurd (.inr hs) h1
        | true => rfl
      · cases hs : allPlainL ims with
        | true => exact absurd (.inr hs) h2
        | false => rfl
theorem isSub_facts {ims : List (List Nd)} (h : isSub ims = true) : ims.length = 6 ∧ ∀ x ∈ ims, x.length ≤ 40 := by
  simp only [isSub, Bool.and_eq_true, decide_eq_true_eq] at h
  exact ⟨h.2, fun x hx => (isFm_ok (allFm_all h.1 x hx)).2⟩
theorem ruleErr_zero {xs : List (List Nd)} {c : List Nd} (h : ruleErr xs c = 0) : xs.length ≤ 6 ∧ ∀ x ∈ xs ++ [c], x.all okNd = true ∧ x.length ≤ 40 := by
  unfold ruleErr at h
  split at h
  · omega
  · refine ⟨by omega, fun x hx => ?_⟩
    unfold plainErrs at h
    split at h
    · rename_i h1
      exact isFm_ok (allFm_all h1 x hx)
    · omega
end Go.Proofs.YtodeecmhcfbheaaGreat
