/- Substitutions on both sides: images of formulas and of lists of formulas, errors of substitutions. -/
import Derived.Test.YtjmpiedjhdogeaaN1
import Derived.Test.YtjmpiedjhdogeaaV1
namespace Go.Proofs.Ytjmpiedjhdogeaa
open Go.RowKit
/-- the image of a node, of a list of nodes -/
def subN (ims : List (List Nd)) (n : Nd) : List Nd := if n.k = 0 then ims.getD n.s.toNat [] else [n]
def sub (ims : List (List Nd)) : List Nd → List Nd
  | [] => []
  | n :: a => subN ims n ++ sub ims a
theorem sub_append (ims : List (List Nd)) (a b : List Nd) : sub ims (a ++ b) = sub ims a ++ sub ims b := by
  induction a with
  | nil => rfl
  | cons n a ih => simp [sub, ih]
theorem sub_take (ims : List (List Nd)) (a : List Nd) (k : Nat) (h : k < a.length) : sub ims (a.take (k + 1)) = sub ims (a.take k) ++ subN ims a[k] := by
  rw [List.take_succ_eq_append_getElem h, sub_append]; simp [sub]
theorem subN_len {ims : List (List Nd)} {M : Nat} (hM : ∀ x ∈ ims, x.length ≤ M) (h1 : 1 ≤ M) (n : Nd) : (subN ims n).length ≤ M := by
  unfold subN
  split
  · rw [List.getD_eq_getElem?_getD]
    cases h : ims[n.s.toNat]? with
    | none => simp
    | some x => exact hM x (List.mem_of_getElem? h)
  · simpa using h1
theorem sub_len {ims : List (List Nd)} {M : Nat} (hM : ∀ x ∈ ims, x.length ≤ M) (h1 : 1 ≤ M) (a : List Nd) : (sub ims a).length ≤ M * a.length := by
  induction a with
  | nil => simp [sub]
  | cons n a ih => have := subN_len hM h1 n; simp only [sub, List.length_append, List.length_cons, Nat.mul_succ]; omega
theorem sub_le (ims : List (List Nd)) (a : List Nd) (k : Nat) : (sub ims (a.take k)).length ≤ (sub ims a).length := by
  have := sub_append ims (a.take k) (a.drop k)
  rw [List.take_append_drop] at this
  rw [this]; simp
theorem sub_step_le (ims : List (List Nd)) (a : List Nd) (k : Nat) (h : k < a.length) : (sub ims (a.take k)).length + (subN ims a[k]).length ≤ (sub ims a).length := by
  have := sub_le ims a (k + 1)
  rw [sub_take ims a k h] at this
  simpa using this
--
set_option maxRecDepth 20000 in
set_option maxHeartbeats 2000000 in
theorem l03Sub_any (ims : List (List Nd)) (a : List Nd) (va vi : Value) (w : World) (hva : Nds w va a) (hvi : NdsL w vi ims) (ha : a.all okNd = true) (h6 : ims.length = 6) (hl : (sub ims a).length ≤ 1000000) :
    Calls Try.prog 103 #[va, vi] w (RetN w (sub ims a)) := by
  have h0 := OwnN.empty w
  have k0 := (Keeps.refl w).alloc (.cells #[] 81)
  have hva0 := hva
  have hvi0 := hvi
  obtain ⟨p, cap, rfl, hle, hmx, _, hlen⟩ := hva
  obtain ⟨pi, ci, rfl, hlei, hmxi, _, _⟩ := hvi
  unfold maxLen at hmx hmxi
  rw [h6] at hlei
  go_enter Try.func103, Try.ntmps103
  go_wp2
  go_loopw [5, 6] (fun o i' wr => ∃ k : Nat, k ≤ a.length ∧ i' = .int .i64 k ∧ OwnN wr w.heap.size o (sub ims (a.take k)) ∧ Keeps w wr) (fun _ i _ => a.length - (intOf i).toNat)
  case atStart => exact ⟨0, by omega, rfl, by simpa [sub] using h0, k0⟩
  case round =>
    obtain ⟨k, hk, rfl, hown, kw⟩ := hrel
    clear h0 k0
    have hsz := kw.size
    by_cases hlt : k < a.length
    · have hlt' : (k : Int) < a.length := by omega
      have hst := sub_take ims a k hlt
      have hsl := sub_step_le ims a k hlt
      obtain ⟨_, _, e1, _, _, hata, _⟩ := hva0.keeps kw
      cases e1
      obtain ⟨b1, o1, rfl, h1, h2⟩ := hata.nd k hlt
      clear hata
      by_cases g : a[k].k = 0
      · obtain ⟨s, hs6, es⟩ := ok_sym ha k hlt g
        have hg : (a[k].k == 0) = true := by simp [g]
        rw [es] at h2
        have hil : s < ims.length := by omega
        obtain ⟨b2, o2, u, e2, hcu, hu⟩ := (hvi0.keeps kw).get s hil
        subst e2
        have hsn : subN ims a[k] = ims[s] := by unfold subN; rw [if_pos g, es, Int.toNat_natCast, List.getD_eq_getElem?_getD, List.getElem?_eq_getElem hil]; rfl
        rw [hsn] at hst hsl
        obtain ⟨p2, n2, q2, rfl⟩ := hu.shape
        have HST := hid hst; clear hst
        have hs6' : (s : Int) < 6 := by omega
        clear hsn g es hva0 hvi0
        go_wp2_with (at_builtin; refine appN rfl _ _ rfl w.heap.size _ _ rfl hown _ _ rfl hu hsz (by omega) ?_; intro v1 w1 hv1 hg1 hr1; have k2 := kw.grown hg1 hr1)
        go_roundw
        case rel => exact ⟨k + 1, by omega, by go_num, by rw [HST.out]; exact hv1, k2⟩
        case measure => simp [intOf]; omega
      · have hg : (a[k].k == 0) = false := by simp [g]
        have hsn : subN ims a[k] = [a[k]] := by unfold subN; rw [if_neg g]
        rw [hsn] at hst hsl
        have HST := hid hst; clear hst
        have hlit := (OwnN.lit1 wr a[k]).nds (by simp)
        have kb := (Keeps.refl wr).alloc (.cells #[.int .i64 a[k].k, .int .i64 a[k].s] 81)
        simp only [List.length_cons, List.length_nil] at hsl
        clear hsn g hva0 hvi0
        go_wp2_with (at_builtin; refine appN rfl _ _ rfl w.heap.size _ _ rfl (hown.keeps kb) _ _ rfl hlit (by simp; omega) (by simp; omega) ?_; intro v1 w1 hv1 hg1 hr1; have k2 := (kw.trans kb).grown hg1 hr1)
        go_roundw
        case rel => exact ⟨k + 1, by omega, by go_num, by rw [HST.out]; exact hv1, k2⟩
        case measure => simp [intOf]; omega
    · go_wp2
      go_ret
      rw [List.take_of_length_le (by omega)] at hown
      exact ⟨_, rfl, hown, kw⟩
--
set_option maxRecDepth 20000 in
set_option maxHeartbeats 2000000 in
theorem withImages_1_any (ims : List (List Nd)) (a : List Nd) (va vi : Value) (b : Nat) (w : World) (hva : Nds w va a) (hvi : NdsL w vi ims) (hb : w.cell? ⟨b, 0, none⟩ = some vi) (ha : a.all okNd = true) (h6 : ims.length = 6) (hl : (sub ims a).length ≤ 1000000) :
    Calls Try.prog 173 #[va, .pointer (some ⟨b, 0, none⟩)] w (RetN w (sub ims a)) := by
  have h0 := OwnN.nil w w.heap.size
  have hva0 := hva
  have hvi0 := hvi
  obtain ⟨p, cap, rfl, hle, hmx, _, hlen⟩ := hva
  obtain ⟨pi, ci, rfl, hlei, hmxi, _, _⟩ := hvi
  unfold maxLen at hmx hmxi
  rw [h6] at hlei hb
  go_enter Try.func173, Try.ntmps173
  go_wp2
  go_loopw [4, 9] (fun o i' wr => ∃ k : Nat, k ≤ a.length ∧ i' = .int .i64 k ∧ OwnN wr w.heap.size o (sub ims (a.take k)) ∧ Keeps w wr) (fun _ i _ => a.length - (intOf i).toNat)
  case atStart => exact ⟨0, by omega, rfl, by simpa [sub] using h0, Keeps.refl w⟩
  case round =>
    obtain ⟨k, hk, rfl, hown, kw⟩ := hrel
    clear h0
    have hsz := kw.size
    by_cases hlt : k < a.length
    · have hlt' : (k : Int) < a.length := by omega
      have hst := sub_take ims a k hlt
      have hsl := sub_step_le ims a k hlt
      obtain ⟨_, _, e1, _, _, hata, _⟩ := hva0.keeps kw
      cases e1
      obtain ⟨b1, o1, rfl, h1, h2⟩ := hata.nd k hlt
      clear hata
      have kb := (Keeps.refl wr).alloc (.cells #[.int .i64 a[k].k, .int .i64 a[k].s] 81)
      have hbk := kb.cell (kw.cell hb)
      by_cases g : a[k].k = 0
      · obtain ⟨s, hs6, es⟩ := ok_sym ha k hlt g
        have hg : (a[k].k == 0) = true := by simp [g]
        have hil : s < ims.length := by omega
        obtain ⟨b2, o2, u, e2, hcu, hu⟩ := ((hvi0.keeps kw).keeps kb).get s hil
        subst e2
        have hsn : subN ims a[k] = ims[s] := by unfold subN; rw [if_pos g, es, Int.toNat_natCast, List.getD_eq_getElem?_getD, List.getElem?_eq_getElem hil]; rfl
        rw [hsn] at hst hsl
        rw [es] at h2 kb hbk hcu hu
        obtain ⟨p2, n2, q2, rfl⟩ := hu.shape
        have HST := hid hst; clear hst
        have hs6' : (s : Int) < 6 := by omega
        clear hsn g es hva0 hvi0 hb
        go_wp2_with (at_builtin; refine appN rfl _ _ rfl w.heap.size _ _ rfl (hown.keeps kb) _ _ rfl hu (by simp; omega) (by omega) ?_; intro v1 w1 hv1 hg1 hr1; have k2 := (kw.trans kb).grown hg1 hr1)
        go_roundw
        case rel => exact ⟨k + 1, by omega, by go_num, by rw [HST.out]; exact hv1, k2⟩
        case measure => simp [intOf]; omega
      · have hg : (a[k].k == 0) = false := by simp [g]
        have hsn : subN ims a[k] = [a[k]] := by unfold subN; rw [if_neg g]
        rw [hsn] at hst hsl
        have HST := hid hst; clear hst
        have hlit := (OwnN.lit1 (wr.alloc (.cells #[.int .i64 a[k].k, .int .i64 a[k].s] 81)) a[k]).nds (by simp)
        rw [show (wr.alloc (.cells #[.int .i64 a[k].k, .int .i64 a[k].s] 81)).heap.size = wr.heap.size + 1 by simp] at hlit
        have kb2 := kb.alloc (.cells #[.int .i64 a[k].k, .int .i64 a[k].s] 81)
        simp only [List.length_cons, List.length_nil] at hsl
        clear hsn g hva0 hvi0 hb
        go_wp2_with (at_builtin; refine appN rfl _ _ rfl w.heap.size _ _ rfl (hown.keeps kb2) _ _ rfl hlit (by simp; omega) (by simp; omega) ?_; intro v1 w1 hv1 hg1 hr1; have k2 := (kw.trans kb2).grown hg1 hr1)
        go_roundw
        case rel => exact ⟨k + 1, by omega, by go_num, by rw [HST.out]; exact hv1, k2⟩
        case measure => simp [intOf]; omega
    · go_wp2
      go_ret
      rw [List.take_of_length_le (by omega)] at hown
      exact ⟨_, rfl, hown, kw⟩
--
theorem withImages_any (v : Value) (w : World) (h1 : ∃ p n c, v = .slice p n c) :
    Calls Try.prog 157 #[v] w fun e w' => e = .returned (.func (.func 173) #[] #[.pointer (some ⟨w.heap.size, 0, none⟩)]) ∧ w' = w.alloc (.cells #[v] 24) := by
  obtain ⟨p, n, c, rfl⟩ := h1
  go_enter Try.func157, Try.ntmps157
  go_wp2
  go_ret
  exact ⟨rfl, rfl⟩
--
set_option maxRecDepth 20000 in
set_option maxHeartbeats 1000000 in
theorem substitute_any (ims : List (List Nd)) (a : List Nd) (va vi : Value) (w : World) (hva : Nds w va a) (hvi : NdsL w vi ims) (ha : a.all okNd = true) (h6 : ims.length = 6) (hl : (sub ims a).length ≤ 1000000) :
    Calls Try.prog 107 #[va, vi] w (RetN w (sub ims a)) := by
  obtain ⟨p1, n1, q1, rfl⟩ := agg_shape hvi
  obtain ⟨p2, n2, q2, rfl⟩ := hva.shape
  have kb := (Keeps.refl w).alloc (.cells #[.slice p1 n1 q1] 24)
  have HW := hid (withImages_any (.slice p1 n1 q1) w ⟨_, _, _, rfl⟩)
  have HS := hid (withImages_1_any ims a _ _ w.heap.size _ (hva.keeps kb) (hvi.keeps kb) (by simp) ha h6 hl)
  clear hva hvi
  go_enter Try.func107, Try.ntmps107
  go_wp2_with fail
  refine HW.out.mono ?_; rintro e w' ⟨rfl, rfl⟩
  go_wp2_with fail
  refine HS.out.mono ?_; rintro e w2 ⟨v2, rfl, hv2, k2⟩
  go_wp2_with fail
  go_ret
  exact ⟨_, rfl, hv2.mono (by simp), kb.trans k2⟩
end Go.Proofs.Ytjmpiedjhdogeaa
