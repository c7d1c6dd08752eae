/- Errors and sizes of rules on both sides; images of rules. -/
import Derived.Test.YtjmpiedjhdogeaaSC
import Derived.Test.YtjmpiedjhdogeaaSH
namespace Go.Proofs.Ytjmpiedjhdogeaa
open Go.RowKit
theorem appNil {P : Program} {w : World} {ops : Array Oper} {rest : List Oper} {o : Oper} {a : Act} {Q : Exit → Act → World → Prop} (hgd : o.guard = none) (s x : Operand) (t e : TypeId) (i : TypeInfo)
    (ho : o.op = .call { callee := .builtin .append, args := #[s, x], argTypes := #[t, t] }) (ht : P.underlying t = some (.slice e)) (hi : P.info? e = some i) (p : Option Addr) (n cap c : Nat) (hs : a.eval s = .slice p n cap) (hx : a.eval x = .slice none 0 c) (h : n ≤ cap)
    (hk : wpList P ops Q rest (a.put o.dst (.slice p n cap)) w) : wpList P ops Q (o :: rest) a w :=
  wpList_plain hgd fun _ hK => by
    have hr := run_append_none (P := P) w t o.type e i ht hi p n cap h c
    unfold Oper.wp execOp
    simp only [ho, resolve, invoke, builtin, Sem.run_bind, Sem.run_pure, Result.andThen_ok, List.map_toArray, List.map_cons, List.map_nil, hs, hx, hr]
    exact hK _ _ hk
theorem info_some {P : Program} {e : TypeId} {z : Option Value} {s b : Nat} (h : (P.info? e).map (fun i => (i.zero, i.size, i.bytes)) = some (z, s, b)) : ∃ i, P.info? e = some i := by
  cases hi : P.info? e with
  | none => rw [hi] at h; cases h
  | some i => exact ⟨i, rfl⟩
def ruleErr (xs : List (List Nd)) (c : List Nd) : Int := if 6 < xs.length then 1 else plainErrs (xs ++ [c])
theorem plainErrs_range (l : List (List Nd)) : plainErrs l = 0 ∨ plainErrs l = 1 ∨ plainErrs l = 5 := by
  unfold plainErrs; split
  · split <;> simp
  · simp
theorem ruleErr_range (xs : List (List Nd)) (c : List Nd) : ruleErr xs c = 0 ∨ ruleErr xs c = 1 ∨ ruleErr xs c = 5 := by
  unfold ruleErr; split
  · simp
  · exact plainErrs_range _
--
set_option maxRecDepth 20000 in
set_option maxHeartbeats 1000000 in
theorem l31Code_any (xs : List (List Nd)) (c : List Nd) (v u : Value) (w : World) (hv : NdsL w v xs) (hu : Nds w u c) :
    Calls Try.prog 60 #[.agg #[v, u]] w fun e w' => e = .returned (.int .i64 (ruleErr xs c)) ∧ Keeps w w' := by
  have hv0 := hv
  obtain ⟨p, cap, rfl, hle, hmx, hlm, _⟩ := hv
  obtain ⟨pu, nu, cu, rfl⟩ := hu.shape
  unfold maxLen at hmx
  have kb := (Keeps.refl w).alloc (.cells #[.slice p xs.length cap, .slice pu nu cu] 27)
  by_cases h6 : 6 < xs.length
  · have hi6 : (6 : Int) < xs.length := by omega
    go_enter Try.func60, Try.ntmps60
    go_wp2_with fail
    go_ret
    exact ⟨ret_int (by rw [ruleErr, if_pos h6]), kb⟩
  · have hi6 : ¬ (6 : Int) < xs.length := by omega
    have H6 := hid h6; clear h6
    have HO := hid (l31Of_any xs c _ _ _ (hv0.keeps kb) (hu.keeps kb) (by have := H6.out; omega))
    have HL := hid (show (xs ++ [c]).length ≤ 2147483648 by have := H6.out; simp; omega)
    clear hv0
    go_enter Try.func60, Try.ntmps60
    go_wp2_with fail
    refine HO.out.mono ?_; rintro e w2 ⟨v2, rfl, hv2, k2⟩
    have hn2 := hv2.ndsL k2 HL.out
    obtain ⟨p2, n2, c2, rfl⟩ := agg_shape hn2
    go_wp2_with fail
    refine (l31Plain_any _ _ _ hn2).mono ?_; rintro e w' ⟨rfl, rfl⟩
    go_wp2_with fail
    go_ret
    exact ⟨ret_int (by rw [ruleErr, if_neg H6.out]), kb.trans k2⟩
theorem NdsL.shapeLe {w : World} {v : Value} {xs : List (List Nd)} (h : NdsL w v xs) : ∃ p n c, v = .slice p n c ∧ n ≤ c := by
  obtain ⟨p, c, e, h1, _⟩ := h
  exact ⟨p, _, c, e, h1⟩
--
set_option maxRecDepth 20000 in
set_option maxHeartbeats 1000000 in
theorem ruleCode_nil (xs : List (List Nd)) (c : List Nd) (v u : Value) (w : World) (hv : NdsL w v xs) (hu : Nds w u c) :
    Calls Try.prog 65 #[.agg #[v, u], .slice none 0 0] w fun e w' => e = .returned (.int .i64 (ruleErr xs c)) ∧ Keeps w w' := by
  have hv0 := hv
  obtain ⟨p, cap, rfl, hle, hmx, hlm, _⟩ := hv
  obtain ⟨pu, nu, cu, rfl⟩ := hu.shape
  unfold maxLen at hmx
  have kb := (Keeps.refl w).alloc (.cells #[.slice p xs.length cap, .slice pu nu cu] 27)
  by_cases h6 : 6 < xs.length
  · have hi6 : (6 : Int) < xs.length := by omega
    go_enter Try.func65, Try.ntmps65
    go_wp2_with fail
    go_ret
    exact ⟨ret_int (by rw [ruleErr, if_pos h6]), kb⟩
  · have hi6 : ¬ (6 : Int) < xs.length := by omega
    have H6 := hid h6; clear h6
    have HO := hid (formulas_any xs c _ _ _ (hv0.keeps kb) (hu.keeps kb) (by have := H6.out; omega))
    have hcl : Try.prog.underlying 24 = some (.slice 25) := Try.underlying24
    obtain ⟨i0, hi0⟩ := info_some infoL
    clear hv0
    go_enter Try.func65, Try.ntmps65
    go_wp2_with fail
    refine HO.out.mono ?_; rintro e w2 ⟨v2, rfl, hn2, k2⟩
    obtain ⟨p2, n2, c2, rfl, hle2⟩ := hn2.shapeLe
    have HP := hid (plainCode_any _ _ _ hn2)
    clear hn2
    go_wp2_with (at_builtin; refine appNil rfl _ _ _ _ i0 rfl hcl hi0 p2 n2 c2 0 rfl rfl hle2 ?_)
    refine HP.out.mono ?_; rintro e w3 ⟨rfl, k3⟩
    go_wp2_with fail
    go_ret
    exact ⟨ret_int (by rw [ruleErr, if_neg H6.out]), (kb.trans k2).trans k3⟩
--
set_option maxRecDepth 20000 in
set_option maxHeartbeats 2000000 in
theorem composed_any (ims l : List (List Nd)) (vl vi : Value) (w : World) (hvl : NdsL w vl l) (hvi : NdsL w vi ims) (ha : ∀ a ∈ l, a.all okNd = true) (h6 : ims.length = 6) (hl : ∀ a ∈ l, (sub ims a).length ≤ 100000) (hll : l.length ≤ 1000) :
    Calls Try.prog 106 #[vl, vi] w (RetL w (l.map (sub ims))) := by
  have hvl0 := hvl
  have H6 := hid h6; clear h6
  obtain ⟨p, cap, rfl, hle, hmx, _, hlen⟩ := hvl
  obtain ⟨pi, ni, ci, rfl⟩ := agg_shape hvi
  unfold maxLen at hmx
  have kb := (Keeps.refl w).alloc (.cells #[.slice pi ni ci] 24)
  have hcb : (w.alloc (.cells #[.slice pi ni ci] 24)).cell? ⟨w.heap.size, 0, none⟩ = some (.slice pi ni ci) := by simp
  have hvi0 := hvi.keeps kb
  have HW := hid (withImages_any (.slice pi ni ci) w ⟨_, _, _, rfl⟩)
  clear hvi
  go_enter Try.func106, Try.ntmps106
  go_wp2_with fail
  refine HW.out.mono ?_; rintro e w' ⟨rfl, rfl⟩
  go_wp2_with fail
  go_loopw [6, 8, 13] (fun o _ i' wr => ∃ k : Nat, k ≤ l.length ∧ i' = .int .i64 k ∧ OwnL wr (w.heap.size + 1) o ((l.take k).map (sub ims)) ∧ Keeps (w.alloc (.cells #[.slice pi ni ci] 24)) wr) (fun _ _ i _ => l.length - (intOf i).toNat)
  case atStart => exact ⟨0, by omega, rfl, by simpa using OwnL.nil _ _, Keeps.refl _⟩
  case round =>
    obtain ⟨k, hk, rfl, hown, kw⟩ := hrel
    have hsz := kw.size
    simp at hsz
    by_cases hlt : k < l.length
    · have hlt' : (k : Int) < l.length := by omega
      have hst : (l.take (k + 1)).map (sub ims) = (l.take k).map (sub ims) ++ [sub ims l[k]] := by rw [List.take_succ_eq_append_getElem hlt, List.map_append]; rfl
      obtain ⟨b2, o2, u, e2, hcu, hu⟩ := ((hvl0.keeps kb).keeps kw).get k hlt
      subst e2
      obtain ⟨p2, n2, q2, rfl⟩ := hu.shape
      have HST := hid hst; clear hst
      have HSUB := hid (withImages_1_any ims l[k] _ _ w.heap.size wr hu (hvi0.keeps kw) (kw.cell hcb) (ha _ (List.getElem_mem hlt)) H6.out (by have := hl _ (List.getElem_mem hlt); omega))
      have hsl := hl _ (List.getElem_mem hlt)
      have hlen2 : ((l.take k).map (sub ims)).length ≤ 1000 := by simp; omega
      clear hu hvl0 hvi0 hlen
      generalize (l.take k).map (sub ims) = L at *
      go_wp2_with fail
      refine HSUB.out.mono ?_; rintro e w2 ⟨v2, rfl, hv2, k2⟩
      obtain ⟨p3, n3, q3, rfl⟩ : ∃ p n c, v2 = .slice p n c := by obtain ⟨p, c, e, _⟩ := At.of_own hv2; exact ⟨p, _, c, e⟩
      have k3 := k2.alloc (.cells #[.slice p3 n3 q3] 25)
      have hv3 := hv2.keeps ((Keeps.refl w2).alloc (.cells #[.slice p3 n3 q3] 25))
      have hat := At.lit1 w2 (.slice p3 n3 q3) 25
      go_wp2_with (at_builtin; refine appL rfl _ _ rfl (w.heap.size + 1) _ L rfl wr hown k3 _ _ hv3 hsz _ _ rfl hat (by omega) ?_; intro v4 w4 hv4 hg4 hr4; have k5 := (kw.trans k3).grown hg4 (by simpa using hr4))
      go_roundw
      case rel => exact ⟨k + 1, by omega, by go_num, by rw [HST.out]; exact hv4, k5⟩
      case measure => simp [intOf]; omega
    · have e : l.take k = l := List.take_of_length_le (by omega)
      rw [e] at hown
      clear e
      go_wp2
      go_ret
      exact ⟨_, rfl, hown.mono (by omega), kb.trans kw⟩
end Go.Proofs.Ytjmpiedjhdogeaa
