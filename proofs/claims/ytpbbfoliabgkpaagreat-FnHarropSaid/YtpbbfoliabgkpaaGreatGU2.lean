/- Left sides, goals, lists of goals; IndexFunc, ContainsFunc where what is asked may turn the world. -/
import Derived.Test.YtpbbfoliabgkpaaGreatGV6
import Derived.Test.YtpbbfoliabgkpaaGreatGM1
import Derived.Test.YtpbbfoliabgkpaaGreatGVE
import Derived.Deep.RegionHeld3
import Derived.Test.YtpbbfoliabgkpaaGreatGV5
import Derived.Test.YtpbbfoliabgkpaaGreatGW4
import Derived.Test.YtpbbfoliabgkpaaGreatGVB
namespace Go.Proofs.YtpbbfoliabgkpaaGreat
open Go.RowKit
/-- a left side -/
def Left (w : World) (v : Value) (G : List Fm) : Prop := ∃ ss, Strs w v ss ∧ Txts ss G
theorem Left.keeps {w w' : World} {v : Value} {G : List Fm} (h : Left w v G) (k : Keeps w w') : Left w' v G := by
  obtain ⟨ss, h1, h2⟩ := h
  exact ⟨ss, h1.keeps k, h2⟩
theorem Left.nil (w : World) : Left w (.slice none 0 0) [] := ⟨[], (OwnS.nil w 0).strs (by simp), rfl⟩
theorem Left.shape {w : World} {v : Value} {G : List Fm} (h : Left w v G) : ∃ p n c, v = .slice p n c := by
  obtain ⟨ss, h1, _⟩ := h
  obtain ⟨p, c, e, _⟩ := h1.at
  exact ⟨p, _, c, e⟩
theorem Left.lit1 (w : World) {s : ByteArray} {t : Fm} (h : bts s = t.body) : Left (w.alloc (.cells #[.string s] 9)) (.slice (some ⟨w.heap.size, 0, none⟩) 1 1) [t] := ⟨[s], Strs.lit1 w s, by simp [Txts, h]⟩
theorem Left.lit1N {N : Nat} (w : World) (hN : N = w.heap.size) {s : ByteArray} {t : Fm} (h : bts s = t.body) : Left (w.alloc (.cells #[.string s] 9)) (.slice (some ⟨N, 0, none⟩) 1 1) [t] := by
  subst hN
  exact Left.lit1 w h
theorem Left.lit2 (w : World) {s s' : ByteArray} {t t' : Fm} (h : bts s = t.body) (h' : bts s' = t'.body) : Left (w.alloc (.cells #[.string s, .string s'] 9)) (.slice (some ⟨w.heap.size, 0, none⟩) 2 2) [t, t'] := ⟨[s, s'], Strs.lit2 w s s', by simp [Txts, h, h']⟩
theorem OwnS.left {w : World} {B : Nat} {v : Value} {ss : List ByteArray} {G : List Fm} (h : OwnS w B v ss) (k : Txts ss G) (hl : G.length ≤ 2147483648) : Left w v G := ⟨ss, h.strs (by rw [k.length]; exact hl), k⟩
theorem Left.turns {m : Nat} {w w' : World} {v : Value} {G : List Fm} (h : Left w v G) (k : Turns m w w') : Left w' v G := by
  obtain ⟨ss, h1, h2⟩ := h
  exact ⟨ss, h1.turns k, h2⟩
/-- goals in a row -/
def GoalL (w : World) (v : Value) (gs : List (List Fm × Fm)) : Prop := SlC 2 (fun w f g => ∃ s, f 1 = .string s ∧ Left w (f 0) g.1 ∧ bts s = g.2.body) w v gs
theorem GoalL.keeps {w w' : World} {v : Value} {gs : List (List Fm × Fm)} (h : GoalL w v gs) (k : Keeps w w') : GoalL w' v gs :=
  SlC.keeps (R := fun w f (g : List Fm × Fm) => ∃ s, f 1 = .string s ∧ Left w (f 0) g.1 ∧ bts s = g.2.body) (fun _ _ _ _ k ⟨s, h1, h2, h3⟩ => ⟨s, h1, h2.keeps k, h3⟩) h k
theorem GoalL.turns {m : Nat} {w w' : World} {v : Value} {gs : List (List Fm × Fm)} (h : GoalL w v gs) (k : Turns m w w') : GoalL w' v gs :=
  SlC.turns (R := fun w f (g : List Fm × Fm) => ∃ s, f 1 = .string s ∧ Left w (f 0) g.1 ∧ bts s = g.2.body) (fun _ _ _ _ k ⟨s, h1, h2, h3⟩ => ⟨s, h1, h2.turns k, h3⟩) h k
theorem GoalL.shape {w : World} {v : Value} {gs : List (List Fm × Fm)} (h : GoalL w v gs) : ∃ p cap, v = .slice p gs.length cap ∧ gs.length ≤ cap ∧ cap ≤ maxLen ∧ gs.length ≤ 2147483648 := by
  obtain ⟨p, cap, hv, h1, h2, h3, _⟩ := h
  exact ⟨p, cap, hv, h1, h2, h3⟩
theorem GoalL.get {w : World} {p : Option Addr} {n cap : Nat} {gs : List (List Fm × Fm)} (h : GoalL w (.slice p n cap) gs) (i : Nat) (hi : i < gs.length) :
    ∃ b off q m c s, p = some ⟨b, off, none⟩ ∧ w.cell? ⟨b, off + i * 2, none⟩ = some (.slice q m c) ∧ w.cell? ⟨b, off + i * 2 + 1, none⟩ = some (.string s) ∧ Left w (.slice q m c) gs[i].1 ∧ bts s = gs[i].2.body := by
  obtain ⟨p', cap', hv, h1, h2, h3, h4⟩ := h
  cases hv
  obtain ⟨b, off, f, hp, hc, s, g1, g2, g3⟩ := h4 i hi
  obtain ⟨q, m, c, e⟩ := g2.shape
  refine ⟨b, off, q, m, c, s, hp, ?_, ?_, by rw [← e]; exact g2, g3⟩
  · rw [← e]; exact hc 0 (by omega)
  · rw [← g1]; exact hc 1 (by omega)
theorem GoalL.lit1 {w : World} {v : Value} {s : ByteArray} {G : List Fm} {c : Fm} (h : Left w v G) (hs : bts s = c.body) :
    GoalL (w.alloc (.cells #[v, .string s] 189)) (.slice (some ⟨w.heap.size, 0, none⟩) 1 1) [(G, c)] := by
  refine ⟨_, 1, rfl, by simp, by simp [maxLen], by simp, fun i hi => ?_⟩
  obtain rfl : i = 0 := by simp at hi; omega
  refine ⟨w.heap.size, 0, fun c => if c = 0 then v else .string s, rfl, fun c hc => ?_, s, rfl, h.keeps ((Keeps.refl w).alloc _), hs⟩
  rw [cell_of_row _ w.heap.size _ #[v, .string s] 189 (0, 0) (heap_alloc_new w _)]
  have : c = 0 ∨ c = 1 := by omega
  rcases this with rfl | rfl <;> simp
theorem GoalL.lit2 {w : World} {v v' : Value} {s s' : ByteArray} {G G' : List Fm} {c c' : Fm} (h : Left w v G) (hs : bts s = c.body) (h' : Left w v' G') (hs' : bts s' = c'.body) :
    GoalL (w.alloc (.cells #[v, .string s, v', .string s'] 189)) (.slice (some ⟨w.heap.size, 0, none⟩) 2 2) [(G, c), (G', c')] := by
  refine ⟨_, 2, rfl, by simp, by simp [maxLen], by simp, fun i hi => ?_⟩
  have hi2 : i = 0 ∨ i = 1 := by simp at hi; omega
  have k := (Keeps.refl w).alloc (.cells #[v, .string s, v', .string s'] 189)
  rcases hi2 with rfl | rfl
  · refine ⟨w.heap.size, 0, fun c => if c = 0 then v else .string s, rfl, fun c hc => ?_, s, rfl, h.keeps k, hs⟩
    rw [cell_of_row _ w.heap.size _ #[v, .string s, v', .string s'] 189 (0, 0) (heap_alloc_new w _)]
    have : c = 0 ∨ c = 1 := by omega
    rcases this with rfl | rfl <;> simp
  · refine ⟨w.heap.size, 0, fun c => if c = 0 then v' else .string s', rfl, fun c hc => ?_, s', rfl, h'.keeps k, hs'⟩
    rw [cell_of_row _ w.heap.size _ #[v, .string s, v', .string s'] 189 (0, 0) (heap_alloc_new w _)]
    have : c = 0 ∨ c = 1 := by omega
    rcases this with rfl | rfl <;> simp
set_option maxHeartbeats 400000 in
theorem indexFuncSI (Inv : World → Prop) (pr : ByteArray → Bool) (f : FuncId) (cp : Array Value) (a : List ByteArray) (v : Value) (w : World) (hv : ∀ w1, Inv w1 → Strs w1 v a) (h0 : Inv w) (hcf : Enters f)
    (hf : ∀ x w1, x ∈ a → Inv w1 → Calls Tryz.prog f (#[.string x] ++ cp) w1 fun e w2 => e = .returned (.bool (pr x)) ∧ Inv w2) :
    Calls Tryz.prog 354 #[v, .func (.func f) #[] cp] w fun e w' => e = .returned (.int .i64 (idxOf pr a 0)) ∧ Inv w' := by
  obtain ⟨p, cap, rfl, hle, hmx, _, hlen⟩ := (hv w h0).at
  unfold maxLen at hmx
  have HV := hid hv; clear hv
  have HF := hid hf; clear hf
  have H0 := hid h0; clear h0
  have hcf' : ∀ args w, (callFunc f args).run Tryz.prog w = .ok (.enter f args) w := hcf
  clear hcf
  go_enter Tryz.func354, Tryz.ntmps354
  go_wp2
  go_loopw [4, 8] (fun r i' wr => ∃ k : Nat, k ≤ a.length ∧ idxOf pr a 0 = idxOf pr (a.drop k) k ∧ Hid (Inv wr) ∧ i' = .int .i64 k ∧ r = .int .i64 0) (fun _ i _ => a.length - (intOf i).toNat)
  case atStart => exact ⟨0, by omega, by simp, H0, rfl, rfl⟩
  case round =>
    obtain ⟨k, hk, hs, kw, rfl, rfl⟩ := hrel
    have Hs := hid hs; clear hs
    by_cases hlt : k < a.length
    · obtain ⟨b, off, rfl, h1⟩ := (HV.out wr kw.out).get k hlt
      have hd := hid (idxOf_drop pr a k hlt)
      cases hp : pr a[k]
      all_goals
        have Hp := hid hp; clear hp
        go_wp2_with ((with_reducible refine (HF.out a[k] wr (List.getElem_mem hlt) kw.out).mono ?_); rintro e w2 ⟨rfl, k2⟩; replace k2 := hid k2; rw [Hp.out])
      · go_roundw
        case rel => exact ⟨k + 1, by omega, by rw [Hs.out, hd.out, Hp.out]; rfl, k2, by go_num, rfl⟩
        case measure => simp [intOf]; omega
      · go_ret
        exact ⟨ret_int (by rw [Hs.out, hd.out, Hp.out]; rfl), k2.out⟩
    · go_wp2
      go_ret
      exact ⟨ret_int (by rw [Hs.out, idxOf_end _ _ _ (by omega)]), kw.out⟩
theorem containsFuncSI (Inv : World → Prop) (pr : ByteArray → Bool) (f : FuncId) (cp : Array Value) (a : List ByteArray) (v : Value) (w : World) (hv : ∀ w1, Inv w1 → Strs w1 v a) (h0 : Inv w) (hcf : Enters f)
    (hf : ∀ x w1, x ∈ a → Inv w1 → Calls Tryz.prog f (#[.string x] ++ cp) w1 fun e w2 => e = .returned (.bool (pr x)) ∧ Inv w2) :
    Calls Tryz.prog 344 #[v, .func (.func f) #[] cp] w fun e w' => e = .returned (.bool (a.any pr)) ∧ Inv w' := by
  have H := hid (indexFuncSI Inv pr f cp a v w hv h0 hcf hf)
  clear hv hf hcf h0
  have he := hid (idxOf_any pr a 0)
  go_enter Tryz.func344, Tryz.ntmps344
  go_wp2_with (go_at_call 354; refine H.out.mono ?_; rintro e w2 ⟨rfl, k2⟩; replace k2 := hid k2)
  go_ret
  exact ⟨ret_bool he.out, k2.out⟩
set_option maxRecDepth 20000 in
set_option maxHeartbeats 400000 in
theorem indexFuncG (Inv : World → Prop) (pr : List Fm × Fm → Bool) (f : FuncId) (cp : Array Value) (a : List (List Fm × Fm)) (v : Value) (w : World) (hv : ∀ w1, Inv w1 → GoalL w1 v a) (h0 : Inv w) (hcf : Enters f)
    (hf : ∀ g, g ∈ a → ∀ q m c s w1, Inv w1 → Left w1 (.slice q m c) g.1 → bts s = g.2.body → Calls Tryz.prog f (#[.agg #[.slice q m c, .string s]] ++ cp) w1 fun e w2 => e = .returned (.bool (pr g)) ∧ Inv w2) :
    Calls Tryz.prog 352 #[v, .func (.func f) #[] cp] w fun e w' => e = .returned (.int .i64 (idxOf pr a 0)) ∧ Inv w' := by
  obtain ⟨p, cap, rfl, hle, hmx, hlen⟩ := (hv w h0).shape
  unfold maxLen at hmx
  have HV := hid hv; clear hv
  have HF := hid hf; clear hf
  have H0 := hid h0; clear h0
  have hcf' : ∀ args w, (callFunc f args).run Tryz.prog w = .ok (.enter f args) w := hcf
  clear hcf
  go_enter Tryz.func352, Tryz.ntmps352
  go_wp2
  go_loopw [4, 8] (fun r i' wr => ∃ k : Nat, k ≤ a.length ∧ idxOf pr a 0 = idxOf pr (a.drop k) k ∧ Hid (Inv wr) ∧ i' = .int .i64 k ∧ r = .int .i64 0) (fun _ i _ => a.length - (intOf i).toNat)
  case atStart => exact ⟨0, by omega, by simp, H0, rfl, rfl⟩
  case round =>
    obtain ⟨k, hk, hs, kw, rfl, rfl⟩ := hrel
    have Hs := hid hs; clear hs
    by_cases hlt : k < a.length
    · obtain ⟨b, off, q, m, c, s, rfl, h1, h2, h3, h4⟩ := (HV.out wr kw.out).get k hlt
      have hd := hid (idxOf_drop pr a k hlt)
      have HC := hid (HF.out a[k] (List.getElem_mem hlt) q m c s wr kw.out h3 h4)
      clear h3 h4
      cases hp : pr a[k]
      all_goals
        have Hp := hid hp; clear hp
        go_wp2_with ((with_reducible refine HC.out.mono ?_); rintro e w2 ⟨rfl, k2⟩; replace k2 := hid k2; rw [Hp.out])
      · go_roundw
        case rel => exact ⟨k + 1, by omega, by rw [Hs.out, hd.out, Hp.out]; rfl, k2, by go_num, rfl⟩
        case measure => simp [intOf]; omega
      · go_ret
        exact ⟨ret_int (by rw [Hs.out, hd.out, Hp.out]; rfl), k2.out⟩
    · go_wp2
      go_ret
      exact ⟨ret_int (by rw [Hs.out, idxOf_end _ _ _ (by omega)]), kw.out⟩
theorem containsFuncG (Inv : World → Prop) (pr : List Fm × Fm → Bool) (f : FuncId) (cp : Array Value) (a : List (List Fm × Fm)) (v : Value) (w : World) (hv : ∀ w1, Inv w1 → GoalL w1 v a) (h0 : Inv w) (hcf : Enters f)
    (hf : ∀ g, g ∈ a → ∀ q m c s w1, Inv w1 → Left w1 (.slice q m c) g.1 → bts s = g.2.body → Calls Tryz.prog f (#[.agg #[.slice q m c, .string s]] ++ cp) w1 fun e w2 => e = .returned (.bool (pr g)) ∧ Inv w2) :
    Calls Tryz.prog 340 #[v, .func (.func f) #[] cp] w fun e w' => e = .returned (.bool (a.any pr)) ∧ Inv w' := by
  have H := hid (indexFuncG Inv pr f cp a v w hv h0 hcf hf)
  clear hv hf hcf h0
  have he := hid (idxOf_any pr a 0)
  go_enter Tryz.func340, Tryz.ntmps340
  go_wp2_with (go_at_call 352; refine H.out.mono ?_; rintro e w2 ⟨rfl, k2⟩; replace k2 := hid k2)
  go_ret
  exact ⟨ret_bool he.out, k2.out⟩
end Go.Proofs.YtpbbfoliabgkpaaGreat
/- drop, and both put and drop as formulas. -/
namespace Go.Proofs.YtpbbfoliabgkpaaGreat
open Go.RowKit
theorem enters_drop_1 : Enters 359 := fun _ _ => by kernel_rfl
set_option maxRecDepth 20000 in
set_option maxHeartbeats 1000000 in
theorem drop_any (ss : List ByteArray) (t : ByteArray) (v : Value) (w : World) (hv : Strs w v ss) (h0 : 0 < ss.length) (hl : ss.length ≤ 1000000000) :
    Calls Tryz.prog 353 #[v, .string t] w fun e w' => ∃ v', e = .returned v' ∧ OwnS w' w.heap.size v' (ss.filter fun s => !(s.toList == t.toList)) ∧ Keeps w w' := by
  have kA := (Keeps.refl w).alloc (.cells #[.string t] 9)
  have hb : (w.alloc (.cells #[.string t] 9)).cell? ⟨w.heap.size, 0, none⟩ = some (.string t) := by simp
  have hva := hv.keeps kA
  obtain ⟨p, cap, rfl, hle, hmx, hat, _⟩ := hva.at
  obtain ⟨b, off, rfl, _⟩ := hat 0 (by simpa [strCells] using h0)
  have hc : ∀ j, j < ss.length → (w.alloc (.cells #[.string t] 9)).cell? ⟨b, off + j, none⟩ = some (.string (ss.getD j ByteArray.empty)) := by
    intro j hj
    obtain ⟨b', off', hp, hc⟩ := hat j (by simpa [strCells] using hj)
    cases hp
    rw [hc]
    simp [strCells, List.getD_eq_getElem?_getD, hj]
  have hC := Tryz.slices_Clone_string b off ss.length cap ss (w.alloc (.cells #[.string t] 9)) (Nat.le_refl _) (by omega) hc
  rw [List.take_length] at hC
  have HC := hid hC; clear hC hc hat
  have HB := hid hb; clear hb
  clear hva
  go_enter Tryz.func353, Tryz.ntmps353
  go_wp2_with fail
  refine HC.out.mono ?_; rintro e w1 ⟨v1, rfl, hv1, hn1, k1⟩
  have hown : OwnS w1 (w.alloc (.cells #[.string t] 9)).heap.size v1 ss := hv1
  obtain ⟨g, c1, rfl⟩ : ∃ g c, v1 = .slice (some ⟨g, 0, none⟩) ss.length c := by
    rcases hown.2 with ⟨e, _⟩ | ⟨g, c, _, e, _⟩
    · exact absurd e hn1
    · exact ⟨g, c, e⟩
  have HD := hid (deleteFuncS (fun s => s.toList == t.toList) 359 #[.pointer (some ⟨w.heap.size, 0, none⟩)] ss g c1 (w.alloc (.cells #[.string t] 9)) w1 hown k1 (by omega) enters_drop_1 (fun x w2 k2 => drop_1_any x t _ w2 (Keeps.cell k2 HB.out)))
  clear hown hv1 hn1
  go_wp2_with fail
  refine HD.out.mono ?_; rintro e w2 ⟨v2, rfl, hv2, k2⟩
  go_wp2_with fail
  go_ret
  exact ⟨_, rfl, hv2.mono (by simp), kA.trans k2⟩
/-- a left side of its own -/
def OLeft (w : World) (B : Nat) (v : Value) (G : List Fm) : Prop := ∃ ss, OwnS w B v ss ∧ Txts ss G ∧ G.length ≤ 2147483648
theorem OLeft.left {w : World} {B : Nat} {v : Value} {G : List Fm} (h : OLeft w B v G) : Left w v G := by
  obtain ⟨ss, h1, h2, h3⟩ := h
  exact h1.left h2 h3
theorem OLeft.mono {w : World} {B B' : Nat} {v : Value} {G : List Fm} (h : OLeft w B v G) (k : B' ≤ B) : OLeft w B' v G := by
  obtain ⟨ss, h1, h2, h3⟩ := h
  exact ⟨ss, h1.mono k, h2, h3⟩
theorem OLeft.setBelow {w : World} {B : Nat} {v : Value} {G : List Fm} (h : OLeft w B v G) {g : Nat} (hg : g < B) (o : Nat) (u : Value) : OLeft (w.setCell ⟨g, o, none⟩ u) B v G := by
  obtain ⟨ss, h1, h2, h3⟩ := h
  refine ⟨ss, World.ownsRow.kept h1 (grown_set g o u) ?_, h2, h3⟩
  cases hb : v.ownBlock with
  | none => exact .inl rfl
  | some k => exact .inr (fun e => by cases e; have := (OwnS.len h1 g hb).1; omega)
theorem put_fm (G H : List Fm) (v u : Value) (w : World) (hv : Left w v G) (hu : Left w u H) (hG : OkL G) (hH : OkL H) (hl : wts G + wts H ≤ 1000000000) :
    Calls Tryz.prog 89 #[v, u] w fun e w' => ∃ v' R, e = .returned v' ∧ OLeft w' w.heap.size v' R ∧ (∀ a, a ∈ R ↔ a ∈ G ∨ a ∈ H) ∧ wts R ≤ wts G + wts H ∧ Keeps w w' := by
  obtain ⟨ss, h1, h2⟩ := hv
  obtain ⟨tt, h3, h4⟩ := hu
  have hl1 := len_le_wts G
  have hl2 := len_le_wts H
  obtain ⟨R, hR, hm, hw, hln⟩ := put_txts h2 h4 (fun a ha => (hG a ha).1) (fun a ha => (hH a ha).1)
  refine (put_any ss tt v u w h1 h3 (by rw [h2.length, h4.length]; omega)).mono ?_
  rintro e w' ⟨v', rfl, ho, k⟩
  exact ⟨v', R, rfl, ⟨_, ho, hR, by omega⟩, hm, hw, k⟩
theorem drop_fm (G : List Fm) (t : Fm) (x : ByteArray) (hx : bts x = t.body) (hm : t ∈ G) (v : Value) (w : World) (hv : Left w v G) (hG : OkL G) (hl : wts G ≤ 1000000000) :
    Calls Tryz.prog 353 #[v, .string x] w fun e w' => ∃ v', e = .returned v' ∧ OLeft w' w.heap.size v' (G.filter fun a => !decide (a = t)) ∧ Keeps w w' := by
  obtain ⟨ss, h1, h2⟩ := hv
  have hl1 := len_le_wts G
  have hp : 0 < G.length := List.length_pos_of_mem hm
  refine (drop_any ss x v w h1 (by rw [h2.length]; exact hp) (by rw [h2.length]; omega)).mono ?_
  rintro e w' ⟨v', rfl, ho, k⟩
  have := drop_txts hx (hG t hm).1 h2 (fun a ha => (hG a ha).1)
  exact ⟨v', rfl, ⟨_, ho, this, by have := List.length_filter_le (fun a => !decide (a = t)) G; omega⟩, k⟩
end Go.Proofs.YtpbbfoliabgkpaaGreat
/- goals: proving, with, instead. -/
namespace Go.Proofs.YtpbbfoliabgkpaaGreat
open Go.RowKit
set_option maxRecDepth 20000 in
set_option maxHeartbeats 1000000 in
theorem proving_any (p : Option Addr) (n c : Nat) (s t : ByteArray) (w : World) :
    Calls Tryz.prog 324 #[.agg #[.slice p n c, .string s], .string t] w fun e w' => e = .returned (.agg #[.slice p n c, .string t]) ∧ Keeps w w' := by
  have kA := (((Keeps.refl w).alloc (.cells #[.slice p n c, .string s] 189)).alloc (.cells #[.slice none 0 0, .string ⟨#[]⟩] 189))
  have pa : ((w.alloc (.cells #[.slice p n c, .string s] 189)).alloc (.cells #[.slice none 0 0, .string ⟨#[]⟩] 189)).cell? ⟨w.heap.size, 0, none⟩ = some (.slice p n c) := by rw [World.cell?_alloc_lt (h := by simp)]; simp
  go_enter Tryz.func324, Tryz.ntmps324
  go_wp2
  refine bodyPost_ret (v := .agg #[.slice p n c, .string t]) (by simp [results, Tryz.results324, go_sem]) rfl ?_
  exact ⟨rfl, (((Keeps.refl w).alloc _).alloc _)⟩
set_option maxRecDepth 20000 in
set_option maxHeartbeats 1000000 in
theorem with_any (G H : List Fm) (p : Option Addr) (n c : Nat) (s : ByteArray) (u : Value) (w : World) (hv : Left w (.slice p n c) G) (hu : Left w u H) (hG : OkL G) (hH : OkL H) (hl : wts G + wts H ≤ 1000000000) :
    Calls Tryz.prog 325 #[.agg #[.slice p n c, .string s], u] w fun e w' => ∃ p' n' c' R, e = .returned (.agg #[.slice p' n' c', .string s]) ∧ Left w' (.slice p' n' c') R ∧ (∀ a, a ∈ R ↔ a ∈ G ∨ a ∈ H) ∧ wts R ≤ wts G + wts H ∧ Keeps w w' := by
  obtain ⟨p2, n2, c2, rfl⟩ := hu.shape
  have kA := (((Keeps.refl w).alloc (.cells #[.slice p n c, .string s] 189)).alloc (.cells #[.slice none 0 0, .string ⟨#[]⟩] 189)).drew
  have pa : ((w.alloc (.cells #[.slice p n c, .string s] 189)).alloc (.cells #[.slice none 0 0, .string ⟨#[]⟩] 189)).drew.cell? ⟨w.heap.size, 0, none⟩ = some (.slice p n c) := by show (World.alloc _ _).cell? _ = _; rw [World.cell?_alloc_lt (h := by simp)]; simp
  have pb : ((w.alloc (.cells #[.slice p n c, .string s] 189)).alloc (.cells #[.slice none 0 0, .string ⟨#[]⟩] 189)).drew.cell? ⟨w.heap.size, 1, none⟩ = some (.string s) := by show (World.alloc _ _).cell? _ = _; rw [World.cell?_alloc_lt (h := by simp)]; simp
  have HP := hid (put_fm G H _ _ _ (hv.keeps kA) (hu.keeps kA) hG hH hl)
  clear hv hu hG hH hl
  go_enter Tryz.func325, Tryz.ntmps325
  go_wp2_with fail
  go_region_held3 (fun w' => w'.cell? ⟨w.heap.size, 0, none⟩ = some (.slice p n c) ∧ w'.cell? ⟨w.heap.size, 1, none⟩ = some (.string s)) (first | exact ⟨pa, pb⟩ | exact ⟨qa, qb⟩ | (constructor <;> (rw [World.cell?_setCell_far _ _ _ _ (by simp), World.cell?_setCell_far _ _ _ _ (by simp)]; first | exact qa | exact qb))) (first | (go_at_call 89; refine HP.out.mono ?_; rintro e w2 ⟨v2, R, rfl, hR, hm, hwt, k2⟩; have qa := k2.cell pa; have qb := k2.cell pb; obtain ⟨p4, n4, q4, rfl⟩ := hR.left.shape; obtain ⟨hc3, hf3⟩ := k2.both))
  go_wp2
  refine bodyPost_ret (v := .agg #[.slice p4 n4 q4, .string s]) (by simp [results, Tryz.results325, go_sem, hc3]) rfl ?_
  exact ⟨p4, n4, q4, R, rfl, ((hR.setBelow (by simp) _ _).setBelow (by simp) _ _).left, hm, hwt, ((kA.trans k2).setCell (by simp) _).setCell (by simp) _⟩
set_option maxRecDepth 20000 in
set_option maxHeartbeats 1000000 in
theorem instead_any (G T : List Fm) (t : Fm) (x : ByteArray) (hx : bts x = t.body) (hm : t ∈ G) (p : Option Addr) (n c : Nat) (s : ByteArray) (u : Value) (w : World) (hv : Left w (.slice p n c) G) (hu : Left w u T) (hG : OkL G) (hT : OkL T) (hl : wts G + wts T ≤ 1000000000) :
    Calls Tryz.prog 342 #[.agg #[.slice p n c, .string s], .string x, u] w fun e w' => ∃ p' n' c' R, e = .returned (.agg #[.slice p' n' c', .string s]) ∧ Left w' (.slice p' n' c') R ∧ (∀ a, a ∈ R ↔ a ∈ T ∨ a ∈ G.filter (fun a => !decide (a = t))) ∧ wts R + wt t ≤ wts G + wts T ∧ Keeps w w' := by
  obtain ⟨p2, n2, c2, rfl⟩ := hu.shape
  have kA := (((Keeps.refl w).alloc (.cells #[.slice p n c, .string s] 189)).alloc (.cells #[.slice none 0 0, .string ⟨#[]⟩] 189)).drew
  have pa : ((w.alloc (.cells #[.slice p n c, .string s] 189)).alloc (.cells #[.slice none 0 0, .string ⟨#[]⟩] 189)).drew.cell? ⟨w.heap.size, 0, none⟩ = some (.slice p n c) := by show (World.alloc _ _).cell? _ = _; rw [World.cell?_alloc_lt (h := by simp)]; simp
  have pb : ((w.alloc (.cells #[.slice p n c, .string s] 189)).alloc (.cells #[.slice none 0 0, .string ⟨#[]⟩] 189)).drew.cell? ⟨w.heap.size, 1, none⟩ = some (.string s) := by show (World.alloc _ _).cell? _ = _; rw [World.cell?_alloc_lt (h := by simp)]; simp
  have hwt := wts_without hm
  have HD := hid (drop_fm G t x hx hm _ _ (hv.keeps kA) hG (by omega))
  have HP := hid (fun v2 w2 (k : Keeps w w2) (h : Left w2 v2 (G.filter fun a => !decide (a = t))) => put_fm _ T v2 _ w2 h (hu.keeps k) (fun a ha => hG a (mem_without.1 ha).1) hT (by omega))
  have HW := hid hwt
  clear hv hu hG hT hl hwt hx hm
  go_enter Tryz.func342, Tryz.ntmps342
  go_wp2_with fail
  go_region_held3 (fun w' => w'.cell? ⟨w.heap.size, 0, none⟩ = some (.slice p n c) ∧ w'.cell? ⟨w.heap.size, 1, none⟩ = some (.string s)) (first | exact ⟨pa, pb⟩ | exact ⟨qa, qb⟩ | exact ⟨ra, rb⟩ | (constructor <;> (rw [World.cell?_setCell_far _ _ _ _ (by simp), World.cell?_setCell_far _ _ _ _ (by simp)]; first | exact ra | exact rb))) (first
    | (go_at_call 353; refine HD.out.mono ?_; rintro e w2 ⟨v2, rfl, hv2, k2⟩; have qa := k2.cell pa; have qb := k2.cell pb; obtain ⟨p4, n4, q4, rfl⟩ := hv2.left.shape)
    | (go_at_call 89; refine (HP.out _ w2 (kA.trans k2) hv2.left).mono ?_; rintro e w3 ⟨v3, R, rfl, hR, hmem, hwR, k3⟩; have ra := k3.cell qa; have rb := k3.cell qb; obtain ⟨p5, n5, q5, rfl⟩ := hR.left.shape; obtain ⟨hc3, hf3⟩ := (k2.trans k3).both))
  have hs2 := k2.size
  go_wp2
  refine bodyPost_ret (v := .agg #[.slice p5 n5 q5, .string s]) (by simp [results, Tryz.results342, go_sem, hc3]) rfl ?_
  have hlt : w.heap.size + 1 < w2.heap.size := by have := hs2; simp at this; omega
  exact ⟨p5, n5, q5, R, rfl, ((hR.setBelow hlt _ _).setBelow hlt _ _).left, fun a => (hmem a).trans or_comm, by have := HW.out; omega, ((kA.trans (k2.trans k3)).setCell (by simp) _).setCell (by simp) _⟩
end Go.Proofs.YtpbbfoliabgkpaaGreat
/- Lists of formulas in the reference's decider: equality, membership, additions, what follows at once. -/
namespace Go.Proofs.YtpbbfoliabgkpaaGreat
open Go.RowKit
/-- a list of formulas -/
def FsL (w : World) (v : Value) (G : List Fm) : Prop := NdsL w v (G.map Fm.enc)
/-- a list with more members, each once -/
def withL {α : Type} [DecidableEq α] (xs : List α) : List α → List α
  | [] => xs
  | y :: ys => if y ∈ xs then withL xs ys else withL (xs ++ [y]) ys
theorem withL_snoc {α : Type} [DecidableEq α] (ys : List α) : ∀ (xs : List α) (y : α), withL xs (ys ++ [y]) = if y ∈ withL xs ys then withL xs ys else withL xs ys ++ [y] := by
  induction ys with
  | nil => intro xs y; by_cases h : y ∈ xs <;> simp [withL, h]
  | cons z ys ih => intro xs y; simp only [List.cons_append, withL]; split <;> exact ih _ _
theorem mem_withL {α : Type} [DecidableEq α] (ys : List α) : ∀ (xs : List α) (z : α), z ∈ withL xs ys ↔ z ∈ ys ∨ z ∈ xs := by
  induction ys with
  | nil => intro xs z; simp [withL]
  | cons y ys ih =>
    intro xs z
    simp only [withL]
    split
    · rename_i h
      rw [ih, List.mem_cons]
      constructor
      · rintro (h1 | h1)
        · exact .inl (.inr h1)
        · exact .inr h1
      · rintro ((rfl | h1) | h1)
        · exact .inr h
        · exact .inl h1
        · exact .inr h1
    · rw [ih, List.mem_cons, List.mem_append, List.mem_singleton]
      constructor
      · rintro (h1 | h1 | h1)
        · exact .inl (.inr h1)
        · exact .inr h1
        · exact .inl (.inl h1)
      · rintro ((h1 | h1) | h1)
        · exact .inr (.inr h1)
        · exact .inl h1
        · exact .inr (.inl h1)
theorem withL_len {α : Type} [DecidableEq α] (ys : List α) : ∀ (xs : List α), (withL xs ys).length ≤ xs.length + ys.length := by
  induction ys with
  | nil => intro xs; simp [withL]
  | cons y ys ih =>
    intro xs; simp only [withL]; split
    · have := ih xs; simp only [List.length_cons]; omega
    · have := ih (xs ++ [y]); simp only [List.length_append, List.length_cons, List.length_nil] at *; omega
theorem wts_withL (ys : List Fm) : ∀ xs : List Fm, wts (withL xs ys) ≤ wts xs + wts ys := by
  induction ys with
  | nil => intro xs; simp [withL, wts]
  | cons y ys ih =>
    intro xs; simp only [withL]; split
    · have := ih xs; simp only [wts]; omega
    · have := ih (xs ++ [y]); rw [wts_append] at this; simp only [wts] at *; omega
theorem withL_enc (ys : List Fm) : ∀ xs : List Fm, withL (xs.map Fm.enc) (ys.map Fm.enc) = (withL xs ys).map Fm.enc := by
  induction ys with
  | nil => intro xs; rfl
  | cons y ys ih =>
    intro xs
    simp only [List.map_cons, withL, enc_mem]
    split
    · exact ih xs
    · have := ih (xs ++ [y]); rw [List.map_append] at this; exact this
--
set_option maxRecDepth 20000 in
set_option maxHeartbeats 1000000 in
theorem l02Equal_any (a b : List Nd) (va vb : Value) (w : World) (hva : Nds w va a) (hvb : Nds w vb b) :
    Calls Tryz.prog 249 #[va, vb] w fun e w' => e = .returned (.bool (decide (a = b))) ∧ Keeps w w' := by
  have hva0 := hva
  have hvb0 := hvb
  obtain ⟨pa, ca, rfl, hlea, hmxa, _, hlena⟩ := hva
  obtain ⟨pb, cb, rfl, hleb, hmxb, _, hlenb⟩ := hvb
  unfold maxLen at hmxa hmxb
  by_cases hl : a.length = b.length
  · have hl' : ((a.length : Int) != (b.length : Int)) = false := by simp [hl]
    have HL := hid hl; clear hl
    go_enter Tryz.func249, Tryz.ntmps249
    go_wp2
    go_loopw [4, 5] (fun r i' wr => ∃ k : Nat, k ≤ a.length ∧ a.take k = b.take k ∧ Keeps w wr ∧ i' = .int .i64 k ∧ r = .bool false) (fun _ i _ => a.length - (intOf i).toNat)
    case atStart => exact ⟨0, by omega, rfl, Keeps.refl w, rfl, rfl⟩
    case round =>
      obtain ⟨k, hk, htk, kw, rfl, rfl⟩ := hrel
      have HT := hid htk; clear htk
      clear hl'
      by_cases hlt : k < a.length
      · have hltb : k < b.length := by have := HL.out; omega
        obtain ⟨_, _, e1, _, _, hata, _⟩ := hva0.keeps kw.drew
        obtain ⟨_, _, e2, _, _, hatb, _⟩ := hvb0.keeps kw.drew
        cases e1; cases e2
        obtain ⟨b1, o1, rfl, h1, h2⟩ := hata.nd k hlt
        obtain ⟨b2, o2, rfl, h3, h4⟩ := hatb.nd k hltb
        clear hata hatb hva0 hvb0
        have hlt' : (k : Int) < a.length := by omega
        have hltb' : (k : Int) < b.length := by omega
        by_cases he : a[k] = b[k]
        · have hk2 : a[k].k = b[k].k := by rw [he]
          have hs2 : a[k].s = b[k].s := by rw [he]
          rw [hk2] at h1
          rw [hs2] at h2
          have HE := hid he; clear he hk2 hs2
          go_wp2_with fail
          go_region
          go_wp2
          go_roundw
          case rel => exact ⟨k + 1, by omega, by rw [List.take_succ_eq_append_getElem hlt, List.take_succ_eq_append_getElem hltb, HT.out, HE.out], kw.drew, by go_num, rfl⟩
          case measure => simp [intOf]; omega
        · have hne : decide (a = b) = false := by rw [decide_eq_false_iff_not]; rintro rfl; exact he rfl
          have HN := hid hne; clear hne
          have hks : ¬ (a[k].k = b[k].k ∧ a[k].s = b[k].s) := fun ⟨g1, g2⟩ => he (by cases hx : a[k]; cases hy : b[k]; simp [hx, hy] at g1 g2; simp [g1, g2])
          clear he
          generalize a[k].k = x1 at *
          generalize a[k].s = x2 at *
          generalize b[k].k = y1 at *
          generalize b[k].s = y2 at *
          by_cases hx : x1 = y1
          · have hx2 : ¬ x2 = y2 := fun e => hks ⟨hx, e⟩
            subst hx
            clear hks
            go_wp2_with fail
            go_region
            go_wp2
            go_ret
            exact ⟨ret_bool HN.out.symm, kw.drew⟩
          · clear hks
            go_wp2_with fail
            go_region
            go_wp2
            go_ret
            exact ⟨ret_bool HN.out.symm, kw.drew⟩
      · go_wp2
        go_ret
        refine ⟨ret_bool ?_, kw⟩
        symm; rw [decide_eq_true_eq]
        have h1 := HL.out; have h2 := HT.out
        rw [List.take_of_length_le (by omega), List.take_of_length_le (by omega)] at h2
        exact h2
  · have hl' : ((a.length : Int) != (b.length : Int)) = true := by simp; omega
    have HL := hid hl; clear hl
    go_enter Tryz.func249, Tryz.ntmps249
    go_wp2
    go_ret
    refine ⟨ret_bool ?_, Keeps.refl _⟩
    symm; rw [decide_eq_false_iff_not]
    rintro rfl; exact HL.out rfl
--
set_option maxRecDepth 20000 in
set_option maxHeartbeats 1000000 in
theorem l23Has_any (xs : List (List Nd)) (x : List Nd) (v u : Value) (w : World) (hv : NdsL w v xs) (hu : Nds w u x) :
    Calls Tryz.prog 246 #[v, u] w fun e w' => e = .returned (.bool (decide (x ∈ xs))) ∧ Keeps w w' := by
  have hv0 := hv
  obtain ⟨p, cap, rfl, hle, hmx, hlm, _⟩ := hv
  obtain ⟨pu, nu, cu, rfl⟩ := hu.shape
  unfold maxLen at hmx
  go_enter Tryz.func246, Tryz.ntmps246
  go_wp2
  go_loopw [4, 5] (fun r i' wr => ∃ k : Nat, k ≤ xs.length ∧ i' = .int .i64 k ∧ r = .bool false ∧ (∀ j (h : j < xs.length), j < k → xs[j] ≠ x) ∧ Keeps w wr) (fun _ i _ => xs.length - (intOf i).toNat)
  case atStart => exact ⟨0, by omega, rfl, rfl, fun j h hj => by omega, Keeps.refl w⟩
  case round =>
    obtain ⟨k, hk, rfl, rfl, hs, kw⟩ := hrel
    have Hs := hid hs; clear hs
    by_cases hlt : k < xs.length
    · obtain ⟨b, off, u1, rfl, hc, hu1⟩ := (hv0.keeps kw).get k hlt
      have hlt' : (k : Int) < xs.length := by omega
      have HE := hid (l02Equal_any xs[k] x u1 _ wr hu1 (hu.keeps kw))
      obtain ⟨p1, n1, q1, rfl⟩ := hu1.shape
      clear hu1 hv0
      by_cases he : xs[k] = x
      · rw [decide_eq_true he] at HE
        have Hm := hid (show x ∈ xs from he ▸ List.getElem_mem hlt)
        clear he
        go_wp2_with fail
        refine HE.out.mono ?_; rintro e w2 ⟨rfl, k2⟩
        go_wp2_with fail
        go_ret
        exact ⟨ret_bool (decide_eq_true Hm.out).symm, kw.trans k2⟩
      · rw [decide_eq_false he] at HE
        have He := hid he; clear he
        go_wp2_with fail
        refine HE.out.mono ?_; rintro e w2 ⟨rfl, k2⟩
        go_wp2_with fail
        go_roundw
        case rel => exact ⟨k + 1, by omega, by go_num, rfl, fun j h hj => by
          by_cases e : j = k
          · subst e; exact He.out
          · exact Hs.out j h (by omega), kw.trans k2⟩
        case measure => simp [intOf]; omega
    · go_wp2
      go_ret
      refine ⟨ret_bool ?_, kw⟩
      symm; rw [decide_eq_false_iff_not]
      intro hm
      obtain ⟨j, hj, e⟩ := List.getElem_of_mem hm
      exact Hs.out j hj (by omega) e
--
set_option maxRecDepth 20000 in
set_option maxHeartbeats 2000000 in
theorem l23With_any (xs ys : List (List Nd)) (v u : Value) (w : World) (hv : NdsL w v xs) (hu : NdsL w u ys) (hl : xs.length + ys.length ≤ 2000000000) :
    Calls Tryz.prog 248 #[v, u] w fun e w' => ∃ v', e = .returned v' ∧ NdsL w' v' (withL xs ys) ∧ Keeps w w' := by
  have hu0 := hu
  obtain ⟨p, n, cap, rfl⟩ := NdsL.shapeL hv
  have hn : n = xs.length := by obtain ⟨_, _, e, _⟩ := hv; cases e; rfl
  obtain ⟨us, hat, hus⟩ := hv.vals
  obtain ⟨pu, cu, rfl, hleu, hmxu, hlmu, _⟩ := hu
  have HN := hid hn; clear hn hv
  unfold maxLen at hmxu
  have k0 := (Keeps.refl w).alloc (.cells #[] 24)
  have hE := ShL.empty (w0 := w) w (Nat.le_refl _)
  go_enter Tryz.func248, Tryz.ntmps248
  go_wp2_with (at_builtin; refine appSh rfl _ _ rfl w _ [] rfl hE p n cap us xs rfl HN.out (hat.keeps k0) hus (by simp) (by simp; omega) ?_; intro v1 w1 hv1 hg1 hr1; have kw1 := k0.grown hg1 hr1)
  simp only [List.nil_append] at hv1
  clear hE
  go_loopw [5, 6] (fun o i' wr => ∃ k : Nat, k ≤ ys.length ∧ i' = .int .i64 k ∧ ShL w wr o (withL xs (ys.take k)) ∧ Keeps w wr) (fun _ i _ => ys.length - (intOf i).toNat)
  case atStart => exact ⟨0, by omega, rfl, hv1, kw1⟩
  case round =>
    obtain ⟨k, hk, rfl, hown, kw⟩ := hrel
    clear hv1 hg1 hr1 kw1 k0
    have hsz := kw.size
    by_cases hlt : k < ys.length
    · obtain ⟨b, off, u1, rfl, hc0, hu1⟩ := hu0.get k hlt
      have hc := kw.cell hc0
      have hlt' : (k : Int) < ys.length := by omega
      have hwl := withL_len (ys.take k) xs
      have hsn := withL_snoc (ys.take k) xs ys[k]
      rw [← List.take_succ_eq_append_getElem hlt] at hsn
      have htl : (ys.take k).length ≤ ys.length := by simp; omega
      have HSN := hid hsn; clear hsn hc0 hu0
      have hnd := hown.ndsL kw (by omega)
      have HH := hid (l23Has_any (withL xs (ys.take k)) ys[k] _ u1 wr hnd (hu1.keeps kw))
      obtain ⟨p2, n2, q2, e2⟩ := NdsL.shapeL hnd
      obtain ⟨p1, n1, q1, rfl⟩ := hu1.shape
      subst e2
      clear hnd
      generalize hW : withL xs (ys.take k) = L at *
      clear hW
      by_cases hm : ys[k] ∈ L
      · rw [decide_eq_true hm] at HH
        have HM := hid hm; clear hm
        go_wp2_with fail
        refine HH.out.mono ?_; rintro e w2 ⟨rfl, k2⟩
        go_wp2_with fail
        go_roundw
        case rel => exact ⟨k + 1, by omega, by go_num, by rw [HSN.out, if_pos HM.out]; exact hown.keeps k2, kw.trans k2⟩
        case measure => simp [intOf]; omega
      · rw [decide_eq_false hm] at HH
        have HM := hid hm; clear hm
        go_wp2_with fail
        refine HH.out.mono ?_; rintro e w2 ⟨rfl, k2⟩
        have hc2 := k2.cell hc
        have k3 := k2.alloc (.cells #[.slice p1 n1 q1] 24)
        have hat1 := At.lit1 w2 (.slice p1 n1 q1) 24
        go_wp2_with (at_builtin; refine appSh rfl _ _ rfl w _ L rfl (hown.keeps k3) _ _ _ [.slice p1 n1 q1] [ys[k]] rfl rfl hat1 (RowsS.one hu1) (by have := k2.size; simp; omega) (by simp; omega) ?_; intro v4 w4 hv4 hg4 hr4; have k4 := (kw.trans k3).grown hg4 hr4)
        go_roundw
        case rel => exact ⟨k + 1, by omega, by go_num, by rw [HSN.out, if_neg HM.out]; exact hv4, k4⟩
        case measure => simp [intOf]; omega
    · have e : ys.take k = ys := List.take_of_length_le (by omega)
      rw [e] at hown
      clear e
      have hwl := withL_len ys xs
      go_wp2
      go_ret
      exact ⟨_, rfl, hown.ndsL kw (by omega), kw⟩
end Go.Proofs.YtpbbfoliabgkpaaGreat
/- The reference's decider of sequents: what follows at once, and the search itself. -/
namespace Go.Proofs.YtpbbfoliabgkpaaGreat
open Go.RowKit
/-- a formula that follows at once from the others -/
def useF (H : List Fm) : Fm → Bool
  | .or x y => decide (x ∈ H) || decide (y ∈ H)
  | .imp x y => x.isFls || decide (y ∈ H)
  | _ => false
theorem has_enc (G : List Fm) (a : Fm) : decide (a.enc ∈ G.map Fm.enc) = decide (a ∈ G) := decide_eq_decide.2 enc_mem
--
theorem has_fm (G : List Fm) (a : Fm) (v u : Value) (w : World) (hv : FsL w v G) (hu : Nds w u a.enc) :
    Calls Tryz.prog 246 #[v, u] w fun e w' => e = .returned (.bool (decide (a ∈ G))) ∧ Keeps w w' := by
  have h := l23Has_any _ _ v u w hv hu
  rw [has_enc] at h
  exact h
--
theorem with_fm (G Y : List Fm) (v u : Value) (w : World) (hv : FsL w v G) (hu : FsL w u Y) (hl : G.length + Y.length ≤ 2000000000) :
    Calls Tryz.prog 248 #[v, u] w fun e w' => ∃ v', e = .returned v' ∧ FsL w' v' (withL G Y) ∧ Keeps w w' := by
  have h := l23With_any _ _ v u w hv hu (by simpa using hl)
  rw [withL_enc] at h
  exact h
theorem FsL.keeps {w w' : World} {v : Value} {G : List Fm} (h : FsL w v G) (k : Keeps w w') : FsL w' v G := NdsL.keeps h k
--
set_option maxRecDepth 20000 in
set_option maxHeartbeats 1000000 in
theorem l23Useless_any (H : List Fm) (a : Fm) (hp : a.plain = true) (v u : Value) (w : World) (hv : FsL w v H) (hu : Nds w u a.enc) :
    Calls Tryz.prog 247 #[v, u] w fun e w' => e = .returned (.bool (useF H a)) ∧ Keeps w w' := by
  have hu0 := hu
  obtain ⟨pv, nv, cv, rfl⟩ := NdsL.shapeL hv
  cases a with
  | or x y =>
    obtain ⟨b, off, n, cap, rfl, h0, h1, h2, h3, hc, _⟩ := hu.head
    clear hu
    have HX := hid (fun w1 u1 (hv1 : FsL w1 (.slice pv nv cv) H) (hu1 : Nds w1 u1 x.enc) => has_fm H x _ u1 w1 hv1 hu1)
    have HY := hid (fun w1 u1 (hv1 : FsL w1 (.slice pv nv cv) H) (hu1 : Nds w1 u1 y.enc) => has_fm H y _ u1 w1 hv1 hu1)
    cases hx : decide (x ∈ H)
    · have Hx := hid hx; clear hx
      go_enter Tryz.func247, Tryz.ntmps247
      go_wp2_with fail
      refine (l02Left_any _ _ x y.enc _ _ hu0 rfl).mono ?_; rintro e w' ⟨v1, rfl, hv1, rfl⟩
      go_wp2_with fail
      refine (HX.out w v1 hv hv1).mono ?_; rintro e w2 ⟨rfl, k2⟩; rw [Hx.out]
      go_wp2_with fail
      refine (l02Right_any _ _ x y _ _ (hu0.keeps k2) rfl).mono ?_; rintro e w' ⟨v2, rfl, hv2, rfl⟩
      go_wp2_with fail
      refine (HY.out w2 v2 (hv.keeps k2) hv2).mono ?_; rintro e w3 ⟨rfl, k3⟩
      go_wp2_with fail
      go_ret
      exact ⟨ret_bool (by simp only [useF, Hx.out, Bool.false_or]), k2.trans k3⟩
    · have Hx := hid hx; clear hx
      go_enter Tryz.func247, Tryz.ntmps247
      go_wp2_with fail
      refine (l02Left_any _ _ x y.enc _ _ hu0 rfl).mono ?_; rintro e w' ⟨v1, rfl, hv1, rfl⟩
      go_wp2_with fail
      refine (HX.out w v1 hv hv1).mono ?_; rintro e w2 ⟨rfl, k2⟩; rw [Hx.out]
      go_wp2_with fail
      go_ret
      exact ⟨ret_bool (by simp only [useF, Hx.out, Bool.true_or]), k2⟩
  | imp x y =>
    obtain ⟨b, off, n, cap, rfl, h0, h1, h2, h3, hc, _⟩ := hu.head
    clear hu
    have HY := hid (fun w1 u1 (hv1 : FsL w1 (.slice pv nv cv) H) (hu1 : Nds w1 u1 y.enc) => has_fm H y _ u1 w1 hv1 hu1)
    have hk := Fm.kind_isFls x
    cases hx : x.isFls
    · rw [hx] at hk
      have Hx := hid hx; clear hx
      go_enter Tryz.func247, Tryz.ntmps247
      go_wp2_with fail
      refine (l02Left_any _ _ x y.enc _ _ hu0 rfl).mono ?_; rintro e w' ⟨v1, rfl, hv1, rfl⟩
      obtain ⟨b1, off1, n1, cap1, rfl, g0, g1, g2, g3, gc, _⟩ := hv1.root
      go_wp2_with fail
      refine (l02Right_any _ _ x y _ _ hu0 rfl).mono ?_; rintro e w' ⟨v2, rfl, hv2, rfl⟩
      go_wp2_with fail
      refine (HY.out w v2 hv hv2).mono ?_; rintro e w3 ⟨rfl, k3⟩
      go_wp2_with fail
      go_ret
      exact ⟨ret_bool (by simp only [useF, Hx.out, Bool.false_or]), k3⟩
    · rw [hx] at hk
      have Hx := hid hx; clear hx
      go_enter Tryz.func247, Tryz.ntmps247
      go_wp2_with fail
      refine (l02Left_any _ _ x y.enc _ _ hu0 rfl).mono ?_; rintro e w' ⟨v1, rfl, hv1, rfl⟩
      obtain ⟨b1, off1, n1, cap1, rfl, g0, g1, g2, g3, gc, _⟩ := hv1.root
      go_wp2_with fail
      go_ret
      exact ⟨ret_bool (by simp only [useF, Hx.out, Bool.true_or]), Keeps.refl _⟩
  | box x => cases hp
  | dia x => cases hp
  | _ =>
    obtain ⟨b, off, n, cap, rfl, h0, h1, h2, h3, hc, _⟩ := hu.head
    go_enter Tryz.func247, Tryz.ntmps247
    go_wp2_with fail
    go_ret
    exact ⟨rfl, Keeps.refl _⟩
/-! ### the search -/
open Classical in
noncomputable def sqB (G : List Fm) (c : Fm) : Bool := decide (Sq G c)
theorem sqB_iff {G : List Fm} {c : Fm} : sqB G c = true ↔ Sq G c := by unfold sqB; exact @decide_eq_true_iff _ (Classical.propDecidable _)
theorem sqB_true {G : List Fm} {c : Fm} (h : Sq G c) : sqB G c = true := sqB_iff.2 h
theorem sqB_false {G : List Fm} {c : Fm} (h : ¬ Sq G c) : sqB G c = false := by
  cases hb : sqB G c with
  | false => rfl
  | true => exact absurd (sqB_iff.1 hb) h
theorem sqB_congr {G H : List Fm} {c d : Fm} (h : Sq G c ↔ Sq H d) : sqB G c = sqB H d := by
  by_cases hs : Sq G c
  · rw [sqB_true hs, sqB_true (h.1 hs)]
  · rw [sqB_false hs, sqB_false (fun k => hs (h.2 k))]
/-- the others -/
def rest (G : List Fm) (k : Nat) : List Fm := G.take k ++ G.drop (k + 1)
theorem mem_rest {G : List Fm} {k : Nat} (h : k < G.length) (a : Fm) : a ∈ G ↔ a = G[k] ∨ a ∈ rest G k := by
  have e : G = G.take k ++ (G[k] :: G.drop (k + 1)) := by rw [← List.drop_eq_getElem_cons h, List.take_append_drop]
  constructor
  · intro ha
    rw [e] at ha
    unfold rest
    rcases List.mem_append.1 ha with ha | ha
    · exact .inr (List.mem_append.2 (.inl ha))
    · rcases List.mem_cons.1 ha with ha | ha
      · exact .inl ha
      · exact .inr (List.mem_append.2 (.inr ha))
  · rintro (ha | ha)
    · rw [ha]; exact List.getElem_mem h
    · unfold rest at ha
      rcases List.mem_append.1 ha with ha | ha
      · exact List.mem_of_mem_take ha
      · exact List.mem_of_mem_drop ha
theorem wts_rest {G : List Fm} {k : Nat} (h : k < G.length) : wts G = wt G[k] + wts (rest G k) := by
  have e : G = G.take k ++ (G[k] :: G.drop (k + 1)) := by rw [← List.drop_eq_getElem_cons h, List.take_append_drop]
  have h2 : wts G = wts (G.take k ++ (G[k] :: G.drop (k + 1))) := by rw [← e]
  rw [h2, rest, wts_append, wts_append]
  simp only [wts]; omega
/-- what the first loop leaves alone -/
def stuck (H : List Fm) (a : Fm) : Prop := (∃ p, a = .var p) ∨ (∃ p b, a = .imp (.var p) b ∧ Fm.var p ∉ H) ∨ (∃ x y b, a = .imp (.imp x y) b)
theorem final_of {G : List Fm} (hf : Fm.fls ∉ G) (h : ∀ k (hk : k < G.length), stuck (rest G k) G[k]) : Final G := by
  refine ⟨hf, fun a ha => ?_⟩
  obtain ⟨k, hk, rfl⟩ := List.getElem_of_mem ha
  rcases h k hk with ⟨p, e⟩ | ⟨p, b, e, hn⟩ | ⟨x, y, b, e⟩
  · exact .inl ⟨p, e⟩
  · refine .inr (.inl ⟨p, b, e, fun hp => ?_⟩)
    rcases (mem_rest hk _).1 hp with h1 | h1
    · rw [e] at h1; cases h1
    · exact hn h1
  · exact .inr (.inr (.inr ⟨x, y, b, e⟩))
end Go.Proofs.YtpbbfoliabgkpaaGreat
