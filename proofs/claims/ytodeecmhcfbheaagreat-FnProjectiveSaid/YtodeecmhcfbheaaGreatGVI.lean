/- Left sides, goals, lists of goals; IndexFunc, ContainsFunc where what is asked may turn the world. -/
import Derived.Test.YtodeecmhcfbheaaGreatGVD
import Derived.Test.YtodeecmhcfbheaaGreatGV6
import Derived.Test.YtodeecmhcfbheaaGreatGW7
namespace Go.Proofs.YtodeecmhcfbheaaGreat
open Go.RowKit
/-- a left side -/
def Left (w : World) (v : Value) (G : List Fm) : Prop := ∃ ss, Strs w v ss ∧ Txts ss G
theorem Left.keeps {w w' : World} {v : Value} {G : List Fm} (h : Left w v G) (k : Keeps w w') : Left w' v G := by
  obtain ⟨ss, h1, h2⟩ := h
  exact ⟨ss, h1.keeps k, h2⟩
theorem Left.nil (w : World) : Left w (.slice none 0 0) [] := ⟨[], (OwnS.nil w 0).strs (by simp), rfl⟩
theorem Left.shape {w : World} {v : Value} {G : List Fm} (h : Left w v G) : ∃ p n c, v = .slice p n c := by
  obtain ⟨ss, h1, _⟩ := h
  obtain ⟨p, c, e, _⟩ := h1.at
  exact ⟨p, _, c, e⟩
theorem Left.lit1 (w : World) {s : ByteArray} {t : Fm} (h : bts s = t.body) : Left (w.alloc (.cells #[.string s] 9)) (.slice (some ⟨w.heap.size, 0, none⟩) 1 1) [t] := ⟨[s], Strs.lit1 w s, by simp [Txts, h]⟩
theorem Left.lit1N {N : Nat} (w : World) (hN : N = w.heap.size) {s : ByteArray} {t : Fm} (h : bts s = t.body) : Left (w.alloc (.cells #[.string s] 9)) (.slice (some ⟨N, 0, none⟩) 1 1) [t] := by
  subst hN
  exact Left.lit1 w h
theorem Left.lit2 (w : World) {s s' : ByteArray} {t t' : Fm} (h : bts s = t.body) (h' : bts s' = t'.body) : Left (w.alloc (.cells #[.string s, .string s'] 9)) (.slice (some ⟨w.heap.size, 0, none⟩) 2 2) [t, t'] := ⟨[s, s'], Strs.lit2 w s s', by simp [Txts, h, h']⟩
theorem OwnS.left {w : World} {B : Nat} {v : Value} {ss : List ByteArray} {G : List Fm} (h : OwnS w B v ss) (k : Txts ss G) (hl : G.length ≤ 2147483648) : Left w v G := ⟨ss, h.strs (by rw [k.length]; exact hl), k⟩
theorem Left.turns {m : Nat} {w w' : World} {v : Value} {G : List Fm} (h : Left w v G) (k : Turns m w w') : Left w' v G := by
  obtain ⟨ss, h1, h2⟩ := h
  exact ⟨ss, h1.turns k, h2⟩
/-- goals in a row -/
def GoalL (w : World) (v : Value) (gs : List (List Fm × Fm)) : Prop := SlC 2 (fun w f g => ∃ s, f 1 = .string s ∧ Left w (f 0) g.1 ∧ bts s = g.2.body) w v gs
theorem GoalL.keeps {w w' : World} {v : Value} {gs : List (List Fm × Fm)} (h : GoalL w v gs) (k : Keeps w w') : GoalL w' v gs :=
  SlC.keeps (R := fun w f (g : List Fm × Fm) => ∃ s, f 1 = .string s ∧ Left w (f 0) g.1 ∧ bts s = g.2.body) (fun _ _ _ _ k ⟨s, h1, h2, h3⟩ => ⟨s, h1, h2.keeps k, h3⟩) h k
theorem GoalL.turns {m : Nat} {w w' : World} {v : Value} {gs : List (List Fm × Fm)} (h : GoalL w v gs) (k : Turns m w w') : GoalL w' v gs :=
  SlC.turns (R := fun w f (g : List Fm × Fm) => ∃ s, f 1 = .string s ∧ Left w (f 0) g.1 ∧ bts s = g.2.body) (fun _ _ _ _ k ⟨s, h1, h2, h3⟩ => ⟨s, h1, h2.turns k, h3⟩) h k
theorem GoalL.shape {w : World} {v : Value} {gs : List (List Fm × Fm)} (h : GoalL w v gs) : ∃ p cap, v = .slice p gs.length cap ∧ gs.length ≤ cap ∧ cap ≤ maxLen ∧ gs.length ≤ 2147483648 := by
  obtain ⟨p, cap, hv, h1, h2, h3, _⟩ := h
  exact ⟨p, cap, hv, h1, h2, h3⟩
theorem GoalL.get {w : World} {p : Option Addr} {n cap : Nat} {gs : List (List Fm × Fm)} (h : GoalL w (.slice p n cap) gs) (i : Nat) (hi : i < gs.length) :
    ∃ b off q m c s, p = some ⟨b, off, none⟩ ∧ w.cell? ⟨b, off + i * 2, none⟩ = some (.slice q m c) ∧ w.cell? ⟨b, off + i * 2 + 1, none⟩ = some (.string s) ∧ Left w (.slice q m c) gs[i].1 ∧ bts s = gs[i].2.body := by
  obtain ⟨p', cap', hv, h1, h2, h3, h4⟩ := h
  cases hv
  obtain ⟨b, off, f, hp, hc, s, g1, g2, g3⟩ := h4 i hi
  obtain ⟨q, m, c, e⟩ := g2.shape
  refine ⟨b, off, q, m, c, s, hp, ?_, ?_, by rw [← e]; exact g2, g3⟩
  · rw [← e]; exact hc 0 (by omega)
  · rw [← g1]; exact hc 1 (by omega)
theorem GoalL.lit1 {w : World} {v : Value} {s : ByteArray} {G : List Fm} {c : Fm} (h : Left w v G) (hs : bts s = c.body) :
    GoalL (w.alloc (.cells #[v, .string s] 183)) (.slice (some ⟨w.heap.size, 0, none⟩) 1 1) [(G, c)] := by
  refine ⟨_, 1, rfl, by simp, by simp [maxLen], by simp, fun i hi => ?_⟩
  obtain rfl : i = 0 := by simp at hi; omega
  refine ⟨w.heap.size, 0, fun c => if c = 0 then v else .string s, rfl, fun c hc => ?_, s, rfl, h.keeps ((Keeps.refl w).alloc _), hs⟩
  rw [cell_of_row _ w.heap.size _ #[v, .string s] 183 (0, 0) (heap_alloc_new w _)]
  have : c = 0 ∨ c = 1 := by omega
  rcases this with rfl | rfl <;> simp
theorem GoalL.lit2 {w : World} {v v' : Value} {s s' : ByteArray} {G G' : List Fm} {c c' : Fm} (h : Left w v G) (hs : bts s = c.body) (h' : Left w v' G') (hs' : bts s' = c'.body) :
    GoalL (w.alloc (.cells #[v, .string s, v', .string s'] 183)) (.slice (some ⟨w.heap.size, 0, none⟩) 2 2) [(G, c), (G', c')] := by
  refine ⟨_, 2, rfl, by simp, by simp [maxLen], by simp, fun i hi => ?_⟩
  have hi2 : i = 0 ∨ i = 1 := by simp at hi; omega
  have k := (Keeps.refl w).alloc (.cells #[v, .string s, v', .string s'] 183)
  rcases hi2 with rfl | rfl
  · refine ⟨w.heap.size, 0, fun c => if c = 0 then v else .string s, rfl, fun c hc => ?_, s, rfl, h.keeps k, hs⟩
    rw [cell_of_row _ w.heap.size _ #[v, .string s, v', .string s'] 183 (0, 0) (heap_alloc_new w _)]
    have : c = 0 ∨ c = 1 := by omega
    rcases this with rfl | rfl <;> simp
  · refine ⟨w.heap.size, 0, fun c => if c = 0 then v' else .string s', rfl, fun c hc => ?_, s', rfl, h'.keeps k, hs'⟩
    rw [cell_of_row _ w.heap.size _ #[v, .string s, v', .string s'] 183 (0, 0) (heap_alloc_new w _)]
    have : c = 0 ∨ c = 1 := by omega
    rcases this with rfl | rfl <;> simp
set_option maxHeartbeats 400000 in
theorem indexFuncSI (Inv : World → Prop) (pr : ByteArray → Bool) (f : FuncId) (cp : Array Value) (a : List ByteArray) (v : Value) (w : World) (hv : ∀ w1, Inv w1 → Strs w1 v a) (h0 : Inv w) (hcf : Enters f)
    (hf : ∀ x w1, x ∈ a → Inv w1 → Calls Tryz.prog f (#[.string x] ++ cp) w1 fun e w2 => e = .returned (.bool (pr x)) ∧ Inv w2) :
    Calls Tryz.prog 281 #[v, .func (.func f) #[] cp] w fun e w' => e = .returned (.int .i64 (idxOf pr a 0)) ∧ Inv w' := by
  obtain ⟨p, cap, rfl, hle, hmx, _, hlen⟩ := (hv w h0).at
  unfold maxLen at hmx
  have HV := hid hv; clear hv
  have HF := hid hf; clear hf
  have H0 := hid h0; clear h0
  have hcf' : ∀ args w, (callFunc f args).run Tryz.prog w = .ok (.enter f args) w := hcf
  clear hcf
  go_enter Tryz.func281, Tryz.ntmps281
  go_wp2
  go_loopw [4, 8] (fun r i' wr => ∃ k : Nat, k ≤ a.length ∧ idxOf pr a 0 = idxOf pr (a.drop k) k ∧ Hid (Inv wr) ∧ i' = .int .i64 k ∧ r = .int .i64 0) (fun _ i _ => a.length - (intOf i).toNat)
  case atStart => exact ⟨0, by omega, by simp, H0, rfl, rfl⟩
  case round =>
    obtain ⟨k, hk, hs, kw, rfl, rfl⟩ := hrel
    have Hs := hid hs; clear hs
    by_cases hlt : k < a.length
    · obtain ⟨b, off, rfl, h1⟩ := (HV.out wr kw.out).get k hlt
      have hd := hid (idxOf_drop pr a k hlt)
      cases hp : pr a[k]
      all_goals
        have Hp := hid hp; clear hp
        go_wp2_with ((with_reducible refine (HF.out a[k] wr (List.getElem_mem hlt) kw.out).mono ?_); rintro e w2 ⟨rfl, k2⟩; replace k2 := hid k2; rw [Hp.out])
      · go_roundw
        case rel => exact ⟨k + 1, by omega, by rw [Hs.out, hd.out, Hp.out]; rfl, k2, by go_num, rfl⟩
        case measure => simp [intOf]; omega
      · go_ret
        exact ⟨ret_int (by rw [Hs.out, hd.out, Hp.out]; rfl), k2.out⟩
    · go_wp2
      go_ret
      exact ⟨ret_int (by rw [Hs.out, idxOf_end _ _ _ (by omega)]), kw.out⟩
theorem containsFuncSI (Inv : World → Prop) (pr : ByteArray → Bool) (f : FuncId) (cp : Array Value) (a : List ByteArray) (v : Value) (w : World) (hv : ∀ w1, Inv w1 → Strs w1 v a) (h0 : Inv w) (hcf : Enters f)
    (hf : ∀ x w1, x ∈ a → Inv w1 → Calls Tryz.prog f (#[.string x] ++ cp) w1 fun e w2 => e = .returned (.bool (pr x)) ∧ Inv w2) :
    Calls Tryz.prog 271 #[v, .func (.func f) #[] cp] w fun e w' => e = .returned (.bool (a.any pr)) ∧ Inv w' := by
  have H := hid (indexFuncSI Inv pr f cp a v w hv h0 hcf hf)
  clear hv hf hcf h0
  have he := hid (idxOf_any pr a 0)
  go_enter Tryz.func271, Tryz.ntmps271
  go_wp2_with (go_at_call 281; refine H.out.mono ?_; rintro e w2 ⟨rfl, k2⟩; replace k2 := hid k2)
  go_ret
  exact ⟨ret_bool he.out, k2.out⟩
set_option maxRecDepth 20000 in
set_option maxHeartbeats 400000 in
theorem indexFuncG (Inv : World → Prop) (pr : List Fm × Fm → Bool) (f : FuncId) (cp : Array Value) (a : List (List Fm × Fm)) (v : Value) (w : World) (hv : ∀ w1, Inv w1 → GoalL w1 v a) (h0 : Inv w) (hcf : Enters f)
    (hf : ∀ g, g ∈ a → ∀ q m c s w1, Inv w1 → Left w1 (.slice q m c) g.1 → bts s = g.2.body → Calls Tryz.prog f (#[.agg #[.slice q m c, .string s]] ++ cp) w1 fun e w2 => e = .returned (.bool (pr g)) ∧ Inv w2) :
    Calls Tryz.prog 279 #[v, .func (.func f) #[] cp] w fun e w' => e = .returned (.int .i64 (idxOf pr a 0)) ∧ Inv w' := by
  obtain ⟨p, cap, rfl, hle, hmx, hlen⟩ := (hv w h0).shape
  unfold maxLen at hmx
  have HV := hid hv; clear hv
  have HF := hid hf; clear hf
  have H0 := hid h0; clear h0
  have hcf' : ∀ args w, (callFunc f args).run Tryz.prog w = .ok (.enter f args) w := hcf
  clear hcf
  go_enter Tryz.func279, Tryz.ntmps279
  go_wp2
  go_loopw [4, 8] (fun r i' wr => ∃ k : Nat, k ≤ a.length ∧ idxOf pr a 0 = idxOf pr (a.drop k) k ∧ Hid (Inv wr) ∧ i' = .int .i64 k ∧ r = .int .i64 0) (fun _ i _ => a.length - (intOf i).toNat)
  case atStart => exact ⟨0, by omega, by simp, H0, rfl, rfl⟩
  case round =>
    obtain ⟨k, hk, hs, kw, rfl, rfl⟩ := hrel
    have Hs := hid hs; clear hs
    by_cases hlt : k < a.length
    · obtain ⟨b, off, q, m, c, s, rfl, h1, h2, h3, h4⟩ := (HV.out wr kw.out).get k hlt
      have hd := hid (idxOf_drop pr a k hlt)
      have HC := hid (HF.out a[k] (List.getElem_mem hlt) q m c s wr kw.out h3 h4)
      clear h3 h4
      cases hp : pr a[k]
      all_goals
        have Hp := hid hp; clear hp
        go_wp2_with ((with_reducible refine HC.out.mono ?_); rintro e w2 ⟨rfl, k2⟩; replace k2 := hid k2; rw [Hp.out])
      · go_roundw
        case rel => exact ⟨k + 1, by omega, by rw [Hs.out, hd.out, Hp.out]; rfl, k2, by go_num, rfl⟩
        case measure => simp [intOf]; omega
      · go_ret
        exact ⟨ret_int (by rw [Hs.out, hd.out, Hp.out]; rfl), k2.out⟩
    · go_wp2
      go_ret
      exact ⟨ret_int (by rw [Hs.out, idxOf_end _ _ _ (by omega)]), kw.out⟩
theorem containsFuncG (Inv : World → Prop) (pr : List Fm × Fm → Bool) (f : FuncId) (cp : Array Value) (a : List (List Fm × Fm)) (v : Value) (w : World) (hv : ∀ w1, Inv w1 → GoalL w1 v a) (h0 : Inv w) (hcf : Enters f)
    (hf : ∀ g, g ∈ a → ∀ q m c s w1, Inv w1 → Left w1 (.slice q m c) g.1 → bts s = g.2.body → Calls Tryz.prog f (#[.agg #[.slice q m c, .string s]] ++ cp) w1 fun e w2 => e = .returned (.bool (pr g)) ∧ Inv w2) :
    Calls Tryz.prog 267 #[v, .func (.func f) #[] cp] w fun e w' => e = .returned (.bool (a.any pr)) ∧ Inv w' := by
  have H := hid (indexFuncG Inv pr f cp a v w hv h0 hcf hf)
  clear hv hf hcf h0
  have he := hid (idxOf_any pr a 0)
  go_enter Tryz.func267, Tryz.ntmps267
  go_wp2_with (go_at_call 279; refine H.out.mono ?_; rintro e w2 ⟨rfl, k2⟩; replace k2 := hid k2)
  go_ret
  exact ⟨ret_bool he.out, k2.out⟩
end Go.Proofs.YtodeecmhcfbheaaGreat
