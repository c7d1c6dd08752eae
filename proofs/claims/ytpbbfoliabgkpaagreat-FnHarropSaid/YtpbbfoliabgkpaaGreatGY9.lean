/- Errors and sizes of rules on both sides; images of rules. -/
import Derived.Test.YtpbbfoliabgkpaaGreatGSC
import Derived.Test.YtpbbfoliabgkpaaGreatGV5
import Derived.Test.YtpbbfoliabgkpaaGreatGK1
import Derived.Test.YtpbbfoliabgkpaaGreatGY6
import Derived.Test.YtpbbfoliabgkpaaGreatGL5
import Derived.Test.YtpbbfoliabgkpaaGreatGV4
import Derived.Test.YtpbbfoliabgkpaaGreatGM1
import Derived.Deep.RegionHeld3
namespace Go.Proofs.YtpbbfoliabgkpaaGreat
open Go.RowKit
theorem appNil {P : Program} {w : World} {ops : Array Oper} {rest : List Oper} {o : Oper} {a : Act} {Q : Exit → Act → World → Prop} (hgd : o.guard = none) (s x : Operand) (t e : TypeId) (i : TypeInfo)
    (ho : o.op = .call { callee := .builtin .append, args := #[s, x], argTypes := #[t, t] }) (ht : P.underlying t = some (.slice e)) (hi : P.info? e = some i) (p : Option Addr) (n cap c : Nat) (hs : a.eval s = .slice p n cap) (hx : a.eval x = .slice none 0 c) (h : n ≤ cap)
    (hk : wpList P ops Q rest (a.put o.dst (.slice p n cap)) w) : wpList P ops Q (o :: rest) a w :=
  wpList_plain hgd fun _ hK => by
    have hr := run_append_none (P := P) w t o.type e i ht hi p n cap h c
    unfold Oper.wp execOp
    simp only [ho, resolve, invoke, builtin, Sem.run_bind, Sem.run_pure, Result.andThen_ok, List.map_toArray, List.map_cons, List.map_nil, hs, hx, hr]
    exact hK _ _ hk
theorem info_some {P : Program} {e : TypeId} {z : Option Value} {s b : Nat} (h : (P.info? e).map (fun i => (i.zero, i.size, i.bytes)) = some (z, s, b)) : ∃ i, P.info? e = some i := by
  cases hi : P.info? e with
  | none => rw [hi] at h; cases h
  | some i => exact ⟨i, rfl⟩
def ruleErr (xs : List (List Nd)) (c : List Nd) : Int := if 6 < xs.length then 1 else plainErrs (xs ++ [c])
theorem plainErrs_range (l : List (List Nd)) : plainErrs l = 0 ∨ plainErrs l = 1 ∨ plainErrs l = 5 := by
  unfold plainErrs; split
  · split <;> simp
  · simp
theorem ruleErr_range (xs : List (List Nd)) (c : List Nd) : ruleErr xs c = 0 ∨ ruleErr xs c = 1 ∨ ruleErr xs c = 5 := by
  unfold ruleErr; split
  · simp
  · exact plainErrs_range _
--
set_option maxRecDepth 20000 in
set_option maxHeartbeats 1000000 in
theorem l31Code_any (xs : List (List Nd)) (c : List Nd) (v u : Value) (w : World) (hv : NdsL w v xs) (hu : Nds w u c) :
    Calls Tryz.prog 83 #[.agg #[v, u]] w fun e w' => e = .returned (.int .i64 (ruleErr xs c)) ∧ Keeps w w' := by
  have hv0 := hv
  obtain ⟨p, cap, rfl, hle, hmx, hlm, _⟩ := hv
  obtain ⟨pu, nu, cu, rfl⟩ := hu.shape
  unfold maxLen at hmx
  have kb := (Keeps.refl w).alloc (.cells #[.slice p xs.length cap, .slice pu nu cu] 37)
  by_cases h6 : 6 < xs.length
  · have hi6 : (6 : Int) < xs.length := by omega
    go_enter Tryz.func83, Tryz.ntmps83
    go_wp2_with fail
    go_ret
    exact ⟨ret_int (by rw [ruleErr, if_pos h6]), kb⟩
  · have hi6 : ¬ (6 : Int) < xs.length := by omega
    have H6 := hid h6; clear h6
    have HO := hid (l31Of_any xs c _ _ _ (hv0.keeps kb) (hu.keeps kb) (by have := H6.out; omega))
    have HL := hid (show (xs ++ [c]).length ≤ 2147483648 by have := H6.out; simp; omega)
    clear hv0
    go_enter Tryz.func83, Tryz.ntmps83
    go_wp2_with fail
    refine HO.out.mono ?_; rintro e w2 ⟨v2, rfl, hv2, k2⟩
    have hn2 := hv2.ndsL k2 HL.out
    obtain ⟨p2, n2, c2, rfl⟩ := agg_shape hn2
    go_wp2_with fail
    refine (l31Plain_any _ _ _ hn2).mono ?_; rintro e w' ⟨rfl, rfl⟩
    go_wp2_with fail
    go_ret
    exact ⟨ret_int (by rw [ruleErr, if_neg H6.out]), kb.trans k2⟩
theorem NdsL.shapeLe {w : World} {v : Value} {xs : List (List Nd)} (h : NdsL w v xs) : ∃ p n c, v = .slice p n c ∧ n ≤ c := by
  obtain ⟨p, c, e, h1, _⟩ := h
  exact ⟨p, _, c, e, h1⟩
--
set_option maxRecDepth 20000 in
set_option maxHeartbeats 1000000 in
theorem ruleCode_nil (xs : List (List Nd)) (c : List Nd) (v u : Value) (w : World) (hv : NdsL w v xs) (hu : Nds w u c) :
    Calls Tryz.prog 77 #[.agg #[v, u], .slice none 0 0] w fun e w' => e = .returned (.int .i64 (ruleErr xs c)) ∧ Keeps w w' := by
  have hv0 := hv
  obtain ⟨p, cap, rfl, hle, hmx, hlm, _⟩ := hv
  obtain ⟨pu, nu, cu, rfl⟩ := hu.shape
  unfold maxLen at hmx
  have kb := (Keeps.refl w).alloc (.cells #[.slice p xs.length cap, .slice pu nu cu] 37)
  by_cases h6 : 6 < xs.length
  · have hi6 : (6 : Int) < xs.length := by omega
    go_enter Tryz.func77, Tryz.ntmps77
    go_wp2_with fail
    go_ret
    exact ⟨ret_int (by rw [ruleErr, if_pos h6]), kb⟩
  · have hi6 : ¬ (6 : Int) < xs.length := by omega
    have H6 := hid h6; clear h6
    have HO := hid (formulas_any xs c _ _ _ (hv0.keeps kb) (hu.keeps kb) (by have := H6.out; omega))
    have hcl : Tryz.prog.underlying 35 = some (.slice 24) := Tryz.underlying35
    obtain ⟨i0, hi0⟩ := info_some infoL
    clear hv0
    go_enter Tryz.func77, Tryz.ntmps77
    go_wp2_with fail
    refine HO.out.mono ?_; rintro e w2 ⟨v2, rfl, hn2, k2⟩
    obtain ⟨p2, n2, c2, rfl, hle2⟩ := hn2.shapeLe
    have HP := hid (plainCode_any _ _ _ hn2)
    clear hn2
    go_wp2_with (at_builtin; refine appNil rfl _ _ _ _ i0 rfl hcl hi0 p2 n2 c2 0 rfl rfl hle2 ?_)
    refine HP.out.mono ?_; rintro e w3 ⟨rfl, k3⟩
    go_wp2_with fail
    go_ret
    exact ⟨ret_int (by rw [ruleErr, if_neg H6.out]), (kb.trans k2).trans k3⟩
--
set_option maxRecDepth 20000 in
set_option maxHeartbeats 1000000 in
theorem l31Size_any (l : List (List Nd)) (v : Value) (w : World) (hv : NdsL w v l) (ht : tot l ≤ 1000000000) : Calls Tryz.prog 91 #[v] w fun e w' => e = .returned (.int .i64 (tot l)) ∧ w = w' := by
  have hv0 := hv
  obtain ⟨p, cap, rfl, hle, hmx, hlm, _⟩ := hv
  unfold maxLen at hmx
  go_enter Tryz.func91, Tryz.ntmps91
  go_wp2
  go_loop [3, 4] (fun m i' => ∃ k : Nat, k ≤ l.length ∧ i' = .int .i64 k ∧ m = .int .i64 (tot (l.take k))) (fun _ i => l.length - (intOf i).toNat)
  case atStart => exact ⟨0, by omega, rfl, by simp [tot]⟩
  case round =>
    obtain ⟨k, hk, rfl, rfl⟩ := hrel
    by_cases hlt : k < l.length
    · obtain ⟨b, off, u, rfl, hc, hu⟩ := hv0.get k hlt
      have hlt' : (k : Int) < l.length := by omega
      have hst := tot_take l k hlt
      have htm := tot_mem l k hlt
      obtain ⟨p1, c1, rfl, hle1, hmx1, _, hln1⟩ := hu
      have HST := hid hst; clear hst hv0
      go_wp2
      go_round
      case rel => exact ⟨k + 1, by omega, by go_num, by rw [HST.out]; go_num⟩
      case measure => simp [intOf]; omega
    · go_wp2
      go_ret
      exact ⟨ret_int (by rw [List.take_of_length_le (by omega)]), rfl⟩
--
theorem haveSmall_1_any (x : List Nd) (u : Value) (w : World) (hu : Nds w u x) : Calls Tryz.prog 177 #[u] w fun e w' => e = .returned (.bool (decide (20 < x.length))) ∧ Keeps w w' := by
  obtain ⟨p, cap, rfl, hle, hmx, _, hlen⟩ := hu
  go_enter Tryz.func177, Tryz.ntmps177
  go_wp2
  go_ret
  exact ⟨ret_bool (by first | rfl | (apply decide_eq_decide.2; omega)), Keeps.refl _⟩
theorem enters_haveSmall_1 : Enters 177 := fun _ _ => by kernel_rfl
theorem haveSmall_any (l : List (List Nd)) (v : Value) (w : World) (hv : NdsL w v l) : Calls Tryz.prog 79 #[v] w fun e w' => e = .returned (.bool (!(l.any fun x => decide (20 < x.length)))) ∧ Keeps w w' := by
  have HC := hid (containsFuncL (fun x => decide (20 < x.length)) 177 #[] l v w hv enters_haveSmall_1 (fun x u w1 _ _ h => haveSmall_1_any x u w1 h))
  obtain ⟨p, cap, rfl, _⟩ := hv
  go_enter Tryz.func79, Tryz.ntmps79
  go_wp2_with fail
  refine HC.out.mono ?_; rintro e w2 ⟨rfl, k2⟩
  go_wp2_with fail
  go_ret
  exact ⟨rfl, k2⟩
--
set_option maxRecDepth 20000 in
set_option maxHeartbeats 2000000 in
theorem composed_any (ims l : List (List Nd)) (vl vi : Value) (w : World) (hvl : NdsL w vl l) (hvi : NdsL w vi ims) (ha : ∀ a ∈ l, a.all okNd = true) (h6 : ims.length = 6) (hl : ∀ a ∈ l, (sub ims a).length ≤ 100000) (hll : l.length ≤ 1000) :
    Calls Tryz.prog 176 #[vl, vi] w (RetL w (l.map (sub ims))) := by
  have hvl0 := hvl
  have H6 := hid h6; clear h6
  obtain ⟨p, cap, rfl, hle, hmx, _, hlen⟩ := hvl
  obtain ⟨pi, ni, ci, rfl⟩ := agg_shape hvi
  unfold maxLen at hmx
  have kb := (Keeps.refl w).alloc (.cells #[.slice pi ni ci] 35)
  have hcb : (w.alloc (.cells #[.slice pi ni ci] 35)).cell? ⟨w.heap.size, 0, none⟩ = some (.slice pi ni ci) := by simp
  have hvi0 := hvi.keeps kb
  have HW := hid (withImages_any (.slice pi ni ci) w ⟨_, _, _, rfl⟩)
  clear hvi
  go_enter Tryz.func176, Tryz.ntmps176
  go_wp2_with fail
  refine HW.out.mono ?_; rintro e w' ⟨rfl, rfl⟩
  go_wp2_with fail
  go_loopw [6, 8, 13] (fun o _ i' wr => ∃ k : Nat, k ≤ l.length ∧ i' = .int .i64 k ∧ OwnL wr (w.heap.size + 1) o ((l.take k).map (sub ims)) ∧ Keeps (w.alloc (.cells #[.slice pi ni ci] 35)) wr) (fun _ _ i _ => l.length - (intOf i).toNat)
  case atStart => exact ⟨0, by omega, rfl, by simpa using OwnL.nil _ _, Keeps.refl _⟩
  case round =>
    obtain ⟨k, hk, rfl, hown, kw⟩ := hrel
    have hsz := kw.size
    simp at hsz
    by_cases hlt : k < l.length
    · have hlt' : (k : Int) < l.length := by omega
      have hst : (l.take (k + 1)).map (sub ims) = (l.take k).map (sub ims) ++ [sub ims l[k]] := by rw [List.take_succ_eq_append_getElem hlt, List.map_append]; rfl
      obtain ⟨b2, o2, u, e2, hcu, hu⟩ := ((hvl0.keeps kb).keeps kw).get k hlt
      subst e2
      obtain ⟨p2, n2, q2, rfl⟩ := hu.shape
      have HST := hid hst; clear hst
      have HSUB := hid (withImages_1_any ims l[k] _ _ w.heap.size wr hu (hvi0.keeps kw) (kw.cell hcb) (ha _ (List.getElem_mem hlt)) H6.out (by have := hl _ (List.getElem_mem hlt); omega))
      have hsl := hl _ (List.getElem_mem hlt)
      have hlen2 : ((l.take k).map (sub ims)).length ≤ 1000 := by simp; omega
      clear hu hvl0 hvi0 hlen
      generalize (l.take k).map (sub ims) = L at *
      go_wp2_with fail
      refine HSUB.out.mono ?_; rintro e w2 ⟨v2, rfl, hv2, k2⟩
      obtain ⟨p3, n3, q3, rfl⟩ : ∃ p n c, v2 = .slice p n c := by obtain ⟨p, c, e, _⟩ := At.of_own hv2; exact ⟨p, _, c, e⟩
      have k3 := k2.alloc (.cells #[.slice p3 n3 q3] 24)
      have hv3 := hv2.keeps ((Keeps.refl w2).alloc (.cells #[.slice p3 n3 q3] 24))
      have hat := At.lit1 w2 (.slice p3 n3 q3) 24
      go_wp2_with (at_builtin; refine appL rfl _ _ rfl (w.heap.size + 1) _ L rfl wr hown k3 _ _ hv3 hsz _ _ rfl hat (by omega) ?_; intro v4 w4 hv4 hg4 hr4; have k5 := (kw.trans k3).grown hg4 (by simpa using hr4))
      go_roundw
      case rel => exact ⟨k + 1, by omega, by go_num, by rw [HST.out]; exact hv4, k5⟩
      case measure => simp [intOf]; omega
    · have e : l.take k = l := List.take_of_length_le (by omega)
      rw [e] at hown
      clear e
      go_wp2
      go_ret
      exact ⟨_, rfl, hown.mono (by omega), kb.trans kw⟩
end Go.Proofs.YtpbbfoliabgkpaaGreat
/- What a lack of errors says: substitutions, rules. -/
namespace Go.Proofs.YtpbbfoliabgkpaaGreat
open Go.RowKit
theorem allFm_all {l : List (List Nd)} (h : allFm l = true) : ∀ x ∈ l, isFm x = true := by
  intro x hx
  simp only [allFm, Bool.not_eq_true', List.any_eq_false] at h
  simpa using h x hx
theorem isFm_ok {x : List Nd} (h : isFm x = true) : x.all okNd = true ∧ x.length ≤ 40 := by
  simp only [isFm, isTree, Bool.and_eq_true, decide_eq_true_eq] at h
  exact ⟨h.2.1, h.1⟩
theorem imgErr_zero {one : Int} {ims : List (List Nd)} (h : imgErr one ims = 0) : one = 0 ∧ isSub ims = true ∧ allPlainL ims = false := by
  unfold imgErr at h
  split at h
  · omega
  · rename_i h1
    split at h
    · omega
    · rename_i h2
      refine ⟨by omega, ?_, ?_⟩
      · cases hs : isSub ims with
        | false => exact absurd (.inr hs) h1
        | true => rfl
      · cases hs : allPlainL ims with
        | true => exact absurd (.inr hs) h2
        | false => rfl
theorem isSub_facts {ims : List (List Nd)} (h : isSub ims = true) : ims.length = 6 ∧ ∀ x ∈ ims, x.length ≤ 40 := by
  simp only [isSub, Bool.and_eq_true, decide_eq_true_eq] at h
  exact ⟨h.2, fun x hx => (isFm_ok (allFm_all h.1 x hx)).2⟩
theorem ruleErr_zero {xs : List (List Nd)} {c : List Nd} (h : ruleErr xs c = 0) : xs.length ≤ 6 ∧ ∀ x ∈ xs ++ [c], x.all okNd = true ∧ x.length ≤ 40 := by
  unfold ruleErr at h
  split at h
  · omega
  · refine ⟨by omega, fun x hx => ?_⟩
    unfold plainErrs at h
    split at h
    · rename_i h1
      exact isFm_ok (allFm_all h1 x hx)
    · omega
end Go.Proofs.YtpbbfoliabgkpaaGreat
/- UnifiesFormula: both sides answer alike. -/
namespace Go.Proofs.YtpbbfoliabgkpaaGreat
open Go.RowKit
/-- a substitution of plain formulas makes a plain formula of a plain formula -/
theorem sub_fm {ims : List (List Nd)} (hs : isSub ims = true) (hp : allPlainL ims = false) : ∀ t : Fm, OkF t → ∃ u, sub ims t.enc = u.enc ∧ OkF u := by
  have hs' := hs
  simp only [isSub, Bool.and_eq_true, decide_eq_true_eq] at hs'
  have hall : ∀ x ∈ ims, plainErr x = 0 := fun x hx => by
    have h1 := allFm_all hs'.1 x hx
    have h2 : plainL x = true := by
      simp only [allPlainL, List.any_eq_false, Bool.not_eq_true', Bool.not_eq_false] at hp
      exact hp x hx
    simp [plainErr, h1, h2]
  intro t
  induction t with
  | var i =>
    intro ht
    have hi : i < ims.length := by have : i < 6 := ht.1; omega
    obtain ⟨u, hw, e, hpl, _⟩ := plain_tree (hall ims[i] (List.getElem_mem hi))
    refine ⟨u, ?_, hw, hpl⟩
    simp [Fm.enc, sub, subN, List.getD_eq_getElem?_getD, hi, e]
  | fls => intro _; exact ⟨.fls, by simp [Fm.enc, sub, subN], okF_fls⟩
  | and x y hx hy =>
    intro ht
    obtain ⟨u, h1, h2⟩ := hx (OkF.and ht).1
    obtain ⟨v, h3, h4⟩ := hy (OkF.and ht).2
    exact ⟨.and u v, by simp [Fm.enc, sub, subN, sub_append, h1, h3], ⟨h2.1, h4.1⟩, by simp [Fm.plain, h2.2, h4.2]⟩
  | or x y hx hy =>
    intro ht
    obtain ⟨u, h1, h2⟩ := hx (OkF.or ht).1
    obtain ⟨v, h3, h4⟩ := hy (OkF.or ht).2
    exact ⟨.or u v, by simp [Fm.enc, sub, subN, sub_append, h1, h3], ⟨h2.1, h4.1⟩, by simp [Fm.plain, h2.2, h4.2]⟩
  | imp x y hx hy =>
    intro ht
    obtain ⟨u, h1, h2⟩ := hx (OkF.imp ht).1
    obtain ⟨v, h3, h4⟩ := hy (OkF.imp ht).2
    exact ⟨.imp u v, by simp [Fm.enc, sub, subN, sub_append, h1, h3], ⟨h2.1, h4.1⟩, by simp [Fm.plain, h2.2, h4.2]⟩
  | box x _ => intro ht; exact absurd ht.2 (by simp [Fm.plain])
  | dia x _ => intro ht; exact absurd ht.2 (by simp [Fm.plain])
theorem NdsL.lit1N {w : World} {N : Nat} (hN : N = w.heap.size) {u : Value} {x : List Nd} (h : Nds w u x) : NdsL (w.alloc (.cells #[u] 24)) (.slice (some ⟨N, 0, none⟩) 1 1) [x] := by
  subst hN; exact NdsL.lit1 h
theorem fm_nodes {a : List Nd} (h : plainErr a = 0) : a.all okNd = true := by
  unfold plainErr at h
  split at h
  · rename_i hf
    exact (isFm_ok hf).1
  · cases h
theorem wt_small {c : Fm} (h : c.enc.length ≤ 20) : wt c ≤ 1048576 := Nat.le_trans (wt_le_pow c) (pow20 h)
set_option maxRecDepth 20000 in
theorem isTheorem_any (c : Fm) (hc : OkF c) (hl : c.enc.length ≤ 20) (v : Value) (w : World) (hv : Nds w v c.enc) :
    Calls Tryz.prog 110 #[v] w fun e w' => e = .returned (.bool (sqB [] c)) ∧ Keeps w w' := by
  have hwt := wt_small hl
  have HT := hid (text_any c hc.1 (by omega) v w hv)
  have HP := hid (fun s (hs : bts s = c.body) w2 => provable_any [] c okL_nil hc (by simp only [wts]; omega) s (.slice none 0 0) w2 (Left.nil w2) hs)
  clear hv
  go_enter Tryz.func110, Tryz.ntmps110
  go_wp2_with fail
  refine HT.out.mono ?_; rintro e w1 ⟨s, rfl, hs, k1⟩
  go_wp2_with fail
  refine (HP.out s hs w1).mono ?_; rintro e w2 ⟨rfl, k2⟩
  go_wp2_with fail
  go_ret
  exact ⟨rfl, k1.trans k2⟩
/-- a function answers b and c -/
def OneTwo (F : FuncId) (a : List Nd) (l : List (List Nd)) (b : Bool) (c : Int) : Prop :=
  ∀ (v u : Value) (w : World), Nds w v a → NdsL w u l → Calls Tryz.prog F #[v, u] w (fun e w' => e = .returned (.tuple #[.bool b, .int .i64 c]) ∧ Keeps w w')
/-- both sides answer b and c -/
def BothTwo (S I : FuncId) (a : List Nd) (l : List (List Nd)) (b : Bool) (c : Int) : Prop :=
  (∀ (v u : Value) (w : World), Nds w v a → NdsL w u l → Calls Tryz.prog S #[v, u] w (fun e w' => e = .returned (.tuple #[.bool b, .int .i64 c]) ∧ Keeps w w')) ∧
  (∀ (v u : Value) (w : World), Nds w v a → NdsL w u l → Calls Tryz.prog I #[v, u] w (fun e w' => e = .returned (.tuple #[.bool b, .int .i64 c]) ∧ Keeps w w'))
theorem plainErr_range (a : List Nd) : plainErr a = 0 ∨ plainErr a = 1 ∨ plainErr a = 5 := by
  by_cases h : plainErr a = 0
  · exact .inl h
  · exact .inr (plainErr_ne h)
set_option maxRecDepth 20000 in
set_option maxHeartbeats 2000000 in
theorem unifies_err_i (a : List Nd) (ims : List (List Nd)) (h : imgErr (plainErr a) ims ≠ 0) : OneTwo 31 a ims false (imgErr (plainErr a) ims) := by
  have h' : (imgErr (plainErr a) ims != 0) = true := by simp [h]
  have H := hid h; clear h
  have HR := hid (plainErr_range a)
  intro v u w hv hu
  obtain ⟨p, n, q, rfl⟩ := hv.shape
  obtain ⟨p2, n2, q2, rfl⟩ := NdsL.shapeL hu
  have k1 := (Keeps.refl w).alloc (.cells #[.slice p n q] 24)
  have h1 := plainCode_any [a] _ _ (NdsL.lit1 hv)
  rw [plainErrs_one] at h1
  have H1 := hid h1
  have H2 := hid (fun w2 (k : Keeps w w2) => imagesCode_any (plainErr a) ims _ w2 (hu.keeps k))
  clear hv hu h1
  go_enter Tryz.func31, Tryz.ntmps31
  go_wp2_with fail
  refine H1.out.mono ?_; rintro e w2 ⟨rfl, k2⟩
  go_wp2_with fail
  refine (H2.out w2 (k1.trans k2)).mono ?_; rintro e w3 ⟨rfl, k3⟩
  go_wp2_with fail
  go_ret2
  exact ⟨rfl, (k1.trans k2).trans k3⟩
set_option maxRecDepth 20000 in
set_option maxHeartbeats 2000000 in
theorem unifies_ok_i (t : Fm) (hl : t.enc.length ≤ 40) (he : plainErr t.enc = 0) (ims : List (List Nd)) (h : imgErr (plainErr t.enc) ims = 0) (u : Fm) (hu : sub ims t.enc = u.enc) (hok : OkF u) :
    OneTwo 31 t.enc ims (if 20 < u.enc.length then false else sqB [] u) (if 20 < u.enc.length then 3 else 0) := by
  obtain ⟨_, hs, hp⟩ := imgErr_zero h
  obtain ⟨h6, h40⟩ := isSub_facts hs
  have hnd := (fm_nodes he)
  have hlen : (sub ims t.enc).length ≤ 1600 := by
    have h1 := sub_len h40 (by omega) t.enc
    have h3 : 40 * t.enc.length ≤ 40 * 40 := Nat.mul_le_mul_left _ hl
    omega
  have hul : u.enc.length ≤ 1600 := by rw [← hu]; exact hlen
  have hmost : mostL [u.enc] = u.enc.length := by simp [mostL]
  intro v u1 w hv hu1
  obtain ⟨p, n, q, rfl⟩ := hv.shape
  obtain ⟨p2, n2, q2, rfl⟩ := NdsL.shapeL hu1
  have k1 := (Keeps.refl w).alloc (.cells #[.slice p n q] 24)
  have h1 := plainCode_any [t.enc] _ _ (NdsL.lit1 hv)
  rw [plainErrs_one, he] at h1
  rw [he] at h
  have h2 := fun w2 (k : Keeps w w2) => imagesCode_any 0 ims _ w2 (hu1.keeps k)
  rw [h] at h2
  have h3 := fun w2 (k : Keeps w w2) => substitute_any ims t.enc _ _ w2 (hv.keeps k) (hu1.keeps k) hnd h6 (by omega)
  rw [hu] at h3
  have H1 := hid h1
  have H2 := hid h2
  have H3 := hid h3
  have hsm : (!([u.enc].any fun x => decide (20 < x.length))) = decide (¬ 20 < u.enc.length) := by rw [Bool.eq_iff_iff]; simp
  have HS := hid (fun v w2 (hv : Nds w2 v u.enc) => haveSmall_any [u.enc] _ (w2.alloc (.cells #[v] 24)) (NdsL.lit1 hv))
  rw [hsm] at HS
  clear h1 h2 h3 hv hu1 hu h hs hp he hmost hsm
  by_cases hbig : 20 < u.enc.length
  · rw [if_pos hbig, if_pos hbig]
    rw [decide_eq_false (fun h => h hbig)] at HS
    go_enter Tryz.func31, Tryz.ntmps31
    go_wp2_with fail
    refine H1.out.mono ?_; rintro e w2 ⟨rfl, k2⟩
    go_wp2_with fail
    refine (H2.out w2 (k1.trans k2)).mono ?_; rintro e w3 ⟨rfl, k3⟩
    have k03 := (k1.trans k2).trans k3
    go_wp2_with fail
    refine (H3.out w3 k03).mono ?_; rintro e w4 ⟨v4, rfl, hv4, k4⟩
    have hn4 := hv4.nds (by omega)
    obtain ⟨p4, n4, c4, rfl⟩ := hn4.shape
    go_wp2_with fail
    refine (HS.out _ w4 hn4).mono ?_; rintro e w5 ⟨rfl, k5⟩
    go_wp2_with fail
    go_ret2
    exact ⟨rfl, ((k03.trans k4).alloc _).trans k5⟩
  · rw [if_neg hbig, if_neg hbig]
    rw [decide_eq_true hbig] at HS
    have HT := hid (fun v w2 (hv : Nds w2 v u.enc) => isTheorem_any u hok (by omega) v w2 hv)
    go_enter Tryz.func31, Tryz.ntmps31
    go_wp2_with fail
    refine H1.out.mono ?_; rintro e w2 ⟨rfl, k2⟩
    go_wp2_with fail
    refine (H2.out w2 (k1.trans k2)).mono ?_; rintro e w3 ⟨rfl, k3⟩
    have k03 := (k1.trans k2).trans k3
    go_wp2_with fail
    refine (H3.out w3 k03).mono ?_; rintro e w4 ⟨v4, rfl, hv4, k4⟩
    have hn4 := hv4.nds (by omega)
    obtain ⟨p4, n4, c4, rfl⟩ := hn4.shape
    have kl := (Keeps.refl w4).alloc (.cells #[.slice p4 n4 c4] 24)
    go_wp2_with fail
    refine (HS.out _ w4 hn4).mono ?_; rintro e w5 ⟨rfl, k5⟩
    go_wp2_with fail
    refine (HT.out _ w5 (hn4.keeps (kl.trans k5))).mono ?_; rintro e w6 ⟨rfl, k6⟩
    go_wp2_with fail
    go_ret2
    exact ⟨rfl, ((k03.trans k4).trans (kl.trans k5)).trans k6⟩
theorem implUnifies (a : List Nd) (ims : List (List Nd)) : ∃ b c, OneTwo 31 a ims b c := by
  by_cases h : imgErr (plainErr a) ims = 0
  · obtain ⟨h0, hs, hp⟩ := imgErr_zero h
    obtain ⟨t, hw, rfl, hpl, hl⟩ := plain_tree h0
    obtain ⟨u, hu, hok⟩ := sub_fm hs hp t ⟨hw, hpl⟩
    exact ⟨_, _, unifies_ok_i t hl h0 ims h u hu hok⟩
  · exact ⟨_, _, unifies_err_i a ims h⟩
end Go.Proofs.YtpbbfoliabgkpaaGreat
/- IsDerivable: both sides answer alike. -/
namespace Go.Proofs.YtpbbfoliabgkpaaGreat
open Go.RowKit
theorem plain_each {l : List (List Nd)} (h : plainErrs l = 0) : ∀ x ∈ l, plainErr x = 0 := by
  intro x hx
  unfold plainErrs at h
  split at h
  · rename_i h1
    split at h
    · omega
    · rename_i h2
      have h3 := allFm_all h1 x hx
      have h4 : plainL x = true := by
        simp only [allPlainL, Bool.not_eq_true, List.any_eq_false, Bool.not_eq_true', Bool.not_eq_false] at h2
        exact h2 x hx
      simp [plainErr, h3, h4]
  · omega
theorem list_trees : ∀ {l : List (List Nd)}, (∀ x ∈ l, plainErr x = 0) → ∃ G, l = G.map Fm.enc ∧ OkL G
  | [], _ => ⟨[], rfl, okL_nil⟩
  | x :: l, h => by
    obtain ⟨G, rfl, hG⟩ := list_trees (l := l) (fun y hy => h y (by simp [hy]))
    obtain ⟨t, hw, rfl, hp, _⟩ := plain_tree (h x (by simp))
    exact ⟨t :: G, rfl, fun a ha => by
      rcases List.mem_cons.1 ha with rfl | ha
      · exact ⟨hw, hp⟩
      · exact hG a ha⟩
theorem nodes_tot (G : List Fm) : nodes G = tot (G.map Fm.enc) := by
  induction G with
  | nil => rfl
  | cons a G ih => simp [nodes, tot, ih]
theorem pow21 {a b : Nat} (h : a + b ≤ 20) : 2 ^ a + 2 ^ b ≤ 50000000 := by
  have h1 : 2 ^ a ≤ 2 ^ 20 := Nat.pow_le_pow_right (by omega) (by omega)
  have h2 : 2 ^ b ≤ 2 ^ 20 := Nat.pow_le_pow_right (by omega) (by omega)
  have h3 : (2 : Nat) ^ 20 = 1048576 := by decide
  omega
set_option maxRecDepth 20000 in
set_option maxHeartbeats 1000000 in
theorem textsOf_any (G : List Fm) (hG : OkL G) (hlen : ∀ a ∈ G, a.enc.length ≤ 40) (hn : G.length ≤ 1000) (v : Value) (w : World) (hv : FsL w v G) :
    Calls Tryz.prog 90 #[v] w fun e w' => ∃ v', e = .returned v' ∧ Left w' v' G ∧ Keeps w w' := by
  obtain ⟨p, n, cap, rfl⟩ := NdsL.shapeL hv
  obtain ⟨hm, hmc, hmx⟩ := FsL.len hv
  unfold maxLen at hmx
  have hn1 : n ≤ 1000 := by omega
  have HM := hid hm; clear hm
  have HV := hid hv; clear hv
  go_enter Tryz.func90, Tryz.ntmps90
  go_wp2
  go_loopw [3, 8] (fun r i' wr => ∃ k : Nat, k ≤ n ∧ i' = .int .i64 k ∧ (∃ ss, OwnS wr w.heap.size r ss ∧ Txts ss (G.take k)) ∧ Keeps w wr) (fun _ i _ => n - (intOf i).toNat)
  case atStart => exact ⟨0, by omega, rfl, ⟨[], OwnS.nil _ _, rfl⟩, Keeps.refl _⟩
  case round =>
    obtain ⟨k, hk, rfl, ⟨ss, hss, htx⟩, kw⟩ := hrel
    by_cases hlt : k < n
    · have hlt' : (k : Int) < n := by omega
      have hkG : k < G.length := by have := HM.out; omega
      obtain ⟨b, off, u1, rfl, hc, hu1⟩ := (HV.out.keeps kw).get k hkG
      have HT := hid (text_any G[k] (hG _ (List.getElem_mem hkG)).1 (by have := hlen _ (List.getElem_mem hkG); omega) u1 wr hu1)
      obtain ⟨q1, n1, c1, rfl⟩ := hu1.shape
      have hsl : ss.length ≤ 1000 := by have := htx.length; simp at this; omega
      have hsz := kw.size
      clear hu1
      go_wp2_with fail
      refine HT.out.mono ?_; rintro e w2 ⟨s, rfl, hs, k2⟩
      have hsz2 := k2.size
      go_wp2_with (at_builtin; refine appS rfl (.tmp 12) (.tmp 15) rfl w.heap.size _ ss rfl ((hss.keeps k2).keeps ((Keeps.refl w2).alloc _)) _ [s] rfl (Strs.lit1 w2 s) (by simp; omega) (by simp; omega) ?_; intro v3 w3 hv3 hg3 hr3)
      go_roundw
      case rel => exact ⟨k + 1, by omega, by go_num, ⟨_, hv3, by rw [List.take_succ_eq_append_getElem hkG]; exact htx.append (by simp [Txts, hs])⟩, (((kw.trans k2).alloc _).grown hg3 (fun q hq => by have := hr3 q hq; omega))⟩
      case measure => simp [intOf]; omega
    · obtain rfl : k = n := by omega
      have hlt' : ¬ ((k : Int) < k) := by omega
      have hL := hid (show Left wr _ G from by
        have h1 : G.take k = G := by have := HM.out; rw [this]; exact List.take_length
        rw [h1] at htx
        exact hss.left htx (by omega))
      clear hss htx
      go_wp2
      go_ret
      exact ⟨_, rfl, hL.out, kw⟩
theorem tot_most (l : List (List Nd)) (n : Nat) (h : ∀ x ∈ l, x.length ≤ n) : tot l ≤ n * l.length := by
  induction l with
  | nil => simp [tot]
  | cons x l ih =>
    have h1 := h x (List.mem_cons_self ..)
    have h2 := ih (fun y hy => h y (List.mem_cons_of_mem _ hy))
    simp only [tot, List.length_cons]
    rw [Nat.mul_succ]; omega
theorem fl_tot (l : List (List Nd)) : (fl l l.length).length = tot l := by
  rw [fl_all]
  induction l with
  | nil => rfl
  | cons x l ih => simp [tot] at ih ⊢; omega
set_option maxRecDepth 20000 in
theorem isSmallRule_any (xs : List (List Nd)) (c : List Nd) (v u : Value) (w : World) (hv : NdsL w v xs) (hu : Nds w u c) (hl : xs.length ≤ 1000000) (ht : tot (xs ++ [c]) ≤ 1000000000) :
    Calls Tryz.prog 88 #[.agg #[v, u]] w fun e w' => e = .returned (.bool (decide (tot (xs ++ [c]) ≤ 20))) ∧ Keeps w w' := by
  obtain ⟨p1, n1, q1, rfl⟩ := NdsL.shapeL hv
  obtain ⟨p2, n2, q2, rfl⟩ := hu.shape
  have kA := (Keeps.refl w).alloc (.cells #[.slice p1 n1 q1, .slice p2 n2 q2] 37)
  have HF := hid (formulas_any xs c _ _ _ (hv.keeps kA) (hu.keeps kA) hl)
  have HC := hid (fun v w2 (hv : NdsL w2 v (xs ++ [c])) => concatN_any (xs ++ [c]) v w2 hv (by rw [fl_tot]; omega))
  have hft := fl_tot (xs ++ [c])
  have HT := hid hft; clear hft
  clear hv hu
  go_enter Tryz.func88, Tryz.ntmps88
  go_wp2_with fail
  refine HF.out.mono ?_; rintro e w2 ⟨v2, rfl, hv2, k2⟩
  go_wp2_with fail
  refine (HC.out _ w2 hv2).mono ?_; rintro e w3 ⟨v3, rfl, hv3, k3⟩
  obtain ⟨p3, c3, rfl, hc3, _⟩ := At.of_own hv3
  have hlen3 := HT.out
  generalize (fl (xs ++ [c]) (xs ++ [c]).length).length = m at *
  subst hlen3
  by_cases h20 : tot (xs ++ [c]) ≤ 20
  · have h20' : ((tot (xs ++ [c]) : Nat) : Int) ≤ 20 := by omega
    go_wp2_with fail
    go_ret
    exact ⟨ret_bool (by simp [h20]), (kA.trans k2).trans k3⟩
  · have h20' : ¬ ((tot (xs ++ [c]) : Nat) : Int) ≤ 20 := by omega
    go_wp2_with fail
    go_ret
    exact ⟨ret_bool (by simp; omega), (kA.trans k2).trans k3⟩
/-- both sides answer b and c -/
def BothRule (S I : FuncId) (xs : List (List Nd)) (c : List Nd) (b : Bool) (k : Int) : Prop :=
  (∀ (v u : Value) (w : World), NdsL w v xs → Nds w u c → Calls Tryz.prog S #[.agg #[v, u]] w (fun e w' => e = .returned (.tuple #[.bool b, .int .i64 k]) ∧ Keeps w w')) ∧
  (∀ (v u : Value) (w : World), NdsL w v xs → Nds w u c → Calls Tryz.prog I #[.agg #[v, u]] w (fun e w' => e = .returned (.tuple #[.bool b, .int .i64 k]) ∧ Keeps w w'))
set_option maxRecDepth 20000 in
set_option maxHeartbeats 1000000 in
theorem derivable_err (xs : List (List Nd)) (c : List Nd) (h : ruleErr xs c ≠ 0) : BothRule 19 18 xs c false (ruleErr xs c) := by
  have h' : (ruleErr xs c != 0) = true := by simp [h]
  have H := hid h; clear h
  refine ⟨fun v u w hv hu => ?_, fun v u w hv hu => ?_⟩
  · obtain ⟨p1, n1, q1, rfl⟩ := NdsL.shapeL hv
    obtain ⟨p2, n2, q2, rfl⟩ := hu.shape
    have kA := (Keeps.refl w).alloc (.cells #[.slice p1 n1 q1, .slice p2 n2 q2] 37)
    have HC := hid (l31Code_any xs c _ _ _ (hv.keeps kA) (hu.keeps kA))
    clear hv hu
    go_enter Tryz.func19, Tryz.ntmps19
    go_wp2_with fail
    refine HC.out.mono ?_; rintro e w2 ⟨rfl, k2⟩
    go_wp2_with fail
    go_ret2
    exact ⟨rfl, kA.trans k2⟩
  · obtain ⟨p1, n1, q1, rfl⟩ := NdsL.shapeL hv
    obtain ⟨p2, n2, q2, rfl⟩ := hu.shape
    have kA := (Keeps.refl w).alloc (.cells #[.slice p1 n1 q1, .slice p2 n2 q2] 37)
    have HC := hid (ruleCode_nil xs c _ _ _ (hv.keeps kA) (hu.keeps kA))
    clear hv hu
    go_enter Tryz.func18, Tryz.ntmps18
    go_wp2_with fail
    refine HC.out.mono ?_; rintro e w2 ⟨rfl, k2⟩
    go_wp2_with fail
    go_ret2
    exact ⟨rfl, kA.trans k2⟩
set_option maxRecDepth 20000 in
set_option maxHeartbeats 2000000 in
theorem derivable_big (xs : List (List Nd)) (c : List Nd) (h : ruleErr xs c = 0) (hb : 20 < tot (xs ++ [c])) : BothRule 19 18 xs c false 3 := by
  obtain ⟨h6, hall⟩ := ruleErr_zero h
  have htot : tot (xs ++ [c]) ≤ 40 * (xs ++ [c]).length := tot_most _ 40 (fun x hx => (hall x hx).2)
  have ht2 : tot (xs ++ [c]) ≤ 1000 := by simp at htot; omega
  refine ⟨fun v u w hv hu => ?_, fun v u w hv hu => ?_⟩
  · obtain ⟨p1, n1, q1, rfl⟩ := NdsL.shapeL hv
    obtain ⟨p2, n2, q2, rfl⟩ := hu.shape
    have kA := (Keeps.refl w).alloc (.cells #[.slice p1 n1 q1, .slice p2 n2 q2] 37)
    have pa : (w.alloc (.cells #[.slice p1 n1 q1, .slice p2 n2 q2] 37)).cell? ⟨w.heap.size, 0, none⟩ = some (.slice p1 n1 q1) := by simp
    have pb : (w.alloc (.cells #[.slice p1 n1 q1, .slice p2 n2 q2] 37)).cell? ⟨w.heap.size, 1, none⟩ = some (.slice p2 n2 q2) := by simp
    have hC := l31Code_any xs c _ _ _ (hv.keeps kA) (hu.keeps kA)
    rw [h] at hC
    have HC := hid hC
    have HO := hid (fun w2 (k : Keeps w w2) => l31Of_any xs c _ _ w2 (hv.keeps k) (hu.keeps k) (by omega))
    have HB := hid (show (20 : Int) < (tot (xs ++ [c]) : Nat) by omega)
    have hS := hid (fun v w2 (h : NdsL w2 v (xs ++ [c])) => l31Size_any (xs ++ [c]) v w2 h (by omega))
    clear hv hu hC hb htot hall
    go_enter Tryz.func19, Tryz.ntmps19
    go_wp2_with fail
    refine HC.out.mono ?_; rintro e w2 ⟨rfl, k2⟩
    obtain ⟨qa, qb⟩ := cells_keeps k2 (And.intro pa pb)
    go_wp2_with fail
    refine (HO.out w2 (kA.trans k2)).mono ?_; rintro e w3 ⟨v3, rfl, hv3, k3⟩
    have hL := hv3.ndsL k3 (by simp; omega)
    go_wp2_with fail
    refine (hS.out _ w3 hL).mono ?_; rintro e w4 ⟨rfl, rfl⟩
    have hbb := HB.out
    go_wp2_with fail
    go_ret2
    exact ⟨rfl, (kA.trans k2).trans k3⟩
  · obtain ⟨p1, n1, q1, rfl⟩ := NdsL.shapeL hv
    obtain ⟨p2, n2, q2, rfl⟩ := hu.shape
    have kA := (Keeps.refl w).alloc (.cells #[.slice p1 n1 q1, .slice p2 n2 q2] 37)
    have pa : (w.alloc (.cells #[.slice p1 n1 q1, .slice p2 n2 q2] 37)).cell? ⟨w.heap.size, 0, none⟩ = some (.slice p1 n1 q1) := by simp
    have pb : (w.alloc (.cells #[.slice p1 n1 q1, .slice p2 n2 q2] 37)).cell? ⟨w.heap.size, 1, none⟩ = some (.slice p2 n2 q2) := by simp
    have hC := ruleCode_nil xs c _ _ _ (hv.keeps kA) (hu.keeps kA)
    rw [h] at hC
    have HC := hid hC
    have hS := fun w2 (k : Keeps w w2) => isSmallRule_any xs c _ _ w2 (hv.keeps k) (hu.keeps k) (by omega) (by omega)
    rw [decide_eq_false (by omega)] at hS
    have HS := hid hS
    clear hv hu hC hS hb htot hall
    go_enter Tryz.func18, Tryz.ntmps18
    go_wp2_with fail
    refine HC.out.mono ?_; rintro e w2 ⟨rfl, k2⟩
    obtain ⟨qa, qb⟩ := cells_keeps k2 (And.intro pa pb)
    go_wp2_with fail
    refine (HS.out w2 (kA.trans k2)).mono ?_; rintro e w3 ⟨rfl, k3⟩
    go_wp2_with fail
    go_ret2
    exact ⟨rfl, (kA.trans k2).trans k3⟩
set_option maxRecDepth 20000 in
set_option maxHeartbeats 2000000 in
theorem derivable_ok (G : List Fm) (t : Fm) (hG : OkL G) (ht : OkF t) (h : ruleErr (G.map Fm.enc) t.enc = 0) (hb : tot (G.map Fm.enc ++ [t.enc]) ≤ 20) : BothRule 19 18 (G.map Fm.enc) t.enc (sqB G t) 0 := by
  obtain ⟨h6, hall⟩ := ruleErr_zero h
  have hl40 : ∀ a ∈ G, a.enc.length ≤ 40 := fun a ha => (hall a.enc (List.mem_append.2 (.inl (List.mem_map.2 ⟨a, ha, rfl⟩)))).2
  have htl : t.enc.length ≤ 40 := (hall t.enc (by simp)).2
  have hGl : G.length ≤ 6 := by simpa using h6
  have hw : wts G + wt t ≤ 50000000 := by
    have h1 := wts_le_pow G
    have h2 := wt_le_pow t
    have h3 : nodes G + t.enc.length ≤ 20 := by
      rw [nodes_tot]
      have : tot (G.map Fm.enc ++ [t.enc]) = tot (G.map Fm.enc) + t.enc.length := by
        clear hb hall h6 h hl40 hGl h1
        induction G with
        | nil => simp [tot]
        | cons a G ih => have := ih (fun b hb => hG b (by simp [hb])); simp [tot] at this ⊢; omega
      omega
    have h4 := pow21 h3
    omega
  have ht2 : tot (G.map Fm.enc ++ [t.enc]) ≤ 1000 := by omega
  refine ⟨fun v u w hv hu => ?_, fun v u w hv hu => ?_⟩
  · obtain ⟨p1, n1, q1, rfl⟩ := NdsL.shapeL hv
    obtain ⟨p2, n2, q2, rfl⟩ := hu.shape
    have kA := (Keeps.refl w).alloc (.cells #[.slice p1 n1 q1, .slice p2 n2 q2] 37)
    have pa : (w.alloc (.cells #[.slice p1 n1 q1, .slice p2 n2 q2] 37)).cell? ⟨w.heap.size, 0, none⟩ = some (.slice p1 n1 q1) := by simp
    have pb : (w.alloc (.cells #[.slice p1 n1 q1, .slice p2 n2 q2] 37)).cell? ⟨w.heap.size, 1, none⟩ = some (.slice p2 n2 q2) := by simp
    have hC := l31Code_any _ _ _ _ _ (hv.keeps kA) (hu.keeps kA)
    rw [h] at hC
    have HC := hid hC
    have HO := hid (fun w2 (k : Keeps w w2) => l31Of_any _ _ _ _ w2 (hv.keeps k) (hu.keeps k) (by simp; omega))
    have HB := hid (show ¬ (20 : Int) < (tot (G.map Fm.enc ++ [t.enc]) : Nat) by omega)
    have hS := hid (fun v w2 (h : NdsL w2 v (G.map Fm.enc ++ [t.enc])) => l31Size_any _ v w2 h (by omega))
    have HX := hid (fun w2 (k : Keeps w w2) => l31Texts_any G hG hl40 (by omega) _ w2 (hv.keeps k))
    have HT := hid (fun w2 (k : Keeps w w2) => l02Text_any t ht.1 ht.2 (by omega) _ w2 (hu.keeps k))
    have HK := hid (fun R (hR : ∀ a, a ∈ R ↔ a ∈ G) (hwR : wts R ≤ wts G) (hlR : R.length ≤ G.length) s (hs : bts s = t.body) v w2 (hl : Left w2 v R) => by
      have h1 := l23Ok_any R t (fun a ha => hG a ((hR a).1 ha)) ht (fun a ha => hl40 a ((hR a).1 ha)) htl (by omega) (by omega) s v w2 hl hs
      rw [sqB_congr (sq_same hR)] at h1
      exact h1)
    clear hv hu hC hb hall
    go_enter Tryz.func19, Tryz.ntmps19
    go_wp2_with fail
    refine HC.out.mono ?_; rintro e w2 ⟨rfl, k2⟩
    obtain ⟨qa, qb⟩ := cells_keeps k2 (And.intro pa pb)
    go_wp2_with fail
    refine (HO.out w2 (kA.trans k2)).mono ?_; rintro e w3 ⟨v3, rfl, hv3, k3⟩
    have hL := hv3.ndsL k3 (by simp; omega)
    obtain ⟨qa3, qb3⟩ := cells_keeps k3 (And.intro qa qb)
    go_wp2_with fail
    refine (hS.out _ w3 hL).mono ?_; rintro e w4 ⟨rfl, rfl⟩
    have hbb := HB.out
    have kD := ((kA.trans k2).trans k3).drew
    have qd : w3.drew.cell? ⟨w.heap.size, 0, none⟩ = some (.slice p1 n1 q1) ∧ w3.drew.cell? ⟨w.heap.size, 1, none⟩ = some (.slice p2 n2 q2) := ⟨qa3, qb3⟩
    clear hL hv3
    go_wp2_with fail
    go_region_held3 (fun w' => w'.cell? ⟨w.heap.size, 0, none⟩ = some (.slice p1 n1 q1) ∧ w'.cell? ⟨w.heap.size, 1, none⟩ = some (.slice p2 n2 q2)) (first | exact qd | exact q5 | exact q6 | exact q7) (first
      | (go_at_call 93; refine (HX.out w3.drew kD).mono ?_; rintro e w5 ⟨v5, rfl, ⟨R, hR, hm, hwR, hlR⟩, k5⟩; have q5 := cells_keeps k5 qd)
      | (go_at_call 94; refine (HT.out w5 (kD.trans k5)).mono ?_; rintro e w6 ⟨s, rfl, hs, k6⟩; have q6 := cells_keeps k6 q5)
      | (go_at_call 92; refine (HK.out R hm hwR hlR s hs _ w6 (hR.keeps k6)).mono ?_; rintro e w7 ⟨rfl, k7⟩; have q7 := cells_keeps k7 q6))
    all_goals
      go_wp2
      go_ret2
      exact ⟨rfl, ((kD.trans k5).trans k6).trans k7⟩
  · obtain ⟨p1, n1, q1, rfl⟩ := NdsL.shapeL hv
    obtain ⟨p2, n2, q2, rfl⟩ := hu.shape
    have kA := (Keeps.refl w).alloc (.cells #[.slice p1 n1 q1, .slice p2 n2 q2] 37)
    have pa : (w.alloc (.cells #[.slice p1 n1 q1, .slice p2 n2 q2] 37)).cell? ⟨w.heap.size, 0, none⟩ = some (.slice p1 n1 q1) := by simp
    have pb : (w.alloc (.cells #[.slice p1 n1 q1, .slice p2 n2 q2] 37)).cell? ⟨w.heap.size, 1, none⟩ = some (.slice p2 n2 q2) := by simp
    have hC := ruleCode_nil _ _ _ _ _ (hv.keeps kA) (hu.keeps kA)
    rw [h] at hC
    have HC := hid hC
    have hS := fun w2 (k : Keeps w w2) => isSmallRule_any _ _ _ _ w2 (hv.keeps k) (hu.keeps k) (by simp; omega) (by omega)
    rw [decide_eq_true hb] at hS
    have HS := hid hS
    have HX := hid (fun w2 (k : Keeps w w2) => textsOf_any G hG hl40 (by omega) _ w2 (hv.keeps k))
    have HT := hid (fun w2 (k : Keeps w w2) => text_any t ht.1 (by omega) _ w2 (hu.keeps k))
    have HP := hid (fun v w2 (hl : Left w2 v G) => put_fm G [] v _ w2 hl (Left.nil w2) hG okL_nil (by simp only [wts]; omega))
    have HK := hid (fun R (hR : ∀ a, a ∈ R ↔ a ∈ G ∨ a ∈ ([] : List Fm)) (hwR : wts R ≤ wts G + wts []) s (hs : bts s = t.body) v w2 (hl : Left w2 v R) => by
      have h1 := provable_any R t (fun a ha => hG a (by simpa using (hR a).1 ha)) ht (by simp only [wts] at hwR; omega) s v w2 hl hs
      rw [sqB_congr (sq_same (fun a => (hR a).trans (by simp) : ∀ a, a ∈ R ↔ a ∈ G))] at h1
      exact h1)
    clear hv hu hC hS hb hall
    go_enter Tryz.func18, Tryz.ntmps18
    go_wp2_with fail
    refine HC.out.mono ?_; rintro e w2 ⟨rfl, k2⟩
    obtain ⟨qa, qb⟩ := cells_keeps k2 (And.intro pa pb)
    go_wp2_with fail
    refine (HS.out w2 (kA.trans k2)).mono ?_; rintro e w3 ⟨rfl, k3⟩
    obtain ⟨qa3, qb3⟩ := cells_keeps k3 (And.intro qa qb)
    have kD := ((kA.trans k2).trans k3).drew
    have qd : w3.drew.cell? ⟨w.heap.size, 0, none⟩ = some (.slice p1 n1 q1) ∧ w3.drew.cell? ⟨w.heap.size, 1, none⟩ = some (.slice p2 n2 q2) := ⟨qa3, qb3⟩
    go_wp2_with fail
    go_region_held3 (fun w' => w'.cell? ⟨w.heap.size, 0, none⟩ = some (.slice p1 n1 q1) ∧ w'.cell? ⟨w.heap.size, 1, none⟩ = some (.slice p2 n2 q2)) (first | exact qd | exact q4 | exact q5 | exact q6 | exact q7) (first
      | (go_at_call 90; refine (HX.out w3.drew kD).mono ?_; rintro e w4 ⟨v4, rfl, hv4, k4⟩; have q4 := cells_keeps k4 qd; obtain ⟨p4, n4, c4, rfl⟩ := hv4.shape)
      | (go_at_call 89; refine (HP.out _ w4 hv4).mono ?_; rintro e w5 ⟨v5, R, rfl, hR, hm, hwR, k5⟩; have q5 := cells_keeps k5 q4; have hRl := hR.left; obtain ⟨p5, n5, c5, rfl⟩ := hRl.shape)
      | (go_at_call 66; refine (HT.out w5 ((kD.trans k4).trans k5)).mono ?_; rintro e w6 ⟨s, rfl, hs, k6⟩; have q6 := cells_keeps k6 q5)
      | (go_at_call 74; refine (HK.out R hm hwR s hs _ w6 (hRl.keeps k6)).mono ?_; rintro e w7 ⟨rfl, k7⟩; have q7 := cells_keeps k7 q6))
    all_goals
      go_wp2
      go_ret2
      exact ⟨rfl, (((kD.trans k4).trans k5).trans k6).trans k7⟩
theorem bothDerivable (xs : List (List Nd)) (c : List Nd) : ∃ b k, BothRule 19 18 xs c b k := by
  by_cases h : ruleErr xs c = 0
  · have hp : plainErrs (xs ++ [c]) = 0 := by
      have h0 := h
      unfold ruleErr at h0
      split at h0
      · omega
      · exact h0
    by_cases hb : tot (xs ++ [c]) ≤ 20
    · obtain ⟨G, rfl, hG⟩ := list_trees (l := xs) (fun x hx => plain_each hp x (List.mem_append.2 (.inl hx)))
      obtain ⟨t, hw, rfl, hpl, _⟩ := plain_tree (plain_each hp c (by simp))
      exact ⟨_, _, derivable_ok G t hG ⟨hw, hpl⟩ h hb⟩
    · exact ⟨_, _, derivable_big xs c h (by omega)⟩
  · exact ⟨_, _, derivable_err xs c h⟩
end Go.Proofs.YtpbbfoliabgkpaaGreat
