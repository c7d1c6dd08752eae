/- Walks: the formulas of a rule; arrows; members of a list of numbers. -/
import Derived.Test.YtodeecmhcfbheaaGreatGM3
import Derived.Deep.RegionHeld3
namespace Go.Proofs.YtodeecmhcfbheaaGreat
open Go.RowKit
/-- an append onto a list of lists without spare room: new memory alone -/
theorem run_appClip (w : World) (ty : TypeId) (p : Option Addr) (n : Nat) (xs : List (List Nd)) (u : Value) (y : List Nd) (q : Addr) (c : Nat) (hv : NdsL w (.slice p n n) xs) (hu : Nds w u y) (hat : At w (some q) [u]) (hlen : xs.length ≤ 1000000) :
    ∃ v' w', (Builtin.append_ #[35, 35] ty #[.slice p n n, .slice (some q) 1 c]).run Tryz.prog w = .ok v' w' ∧ NdsL w' v' (xs ++ [y]) ∧ Keeps w w' := by
  obtain ⟨i0, hi, hz0, hz1, hz2⟩ := info_parts infoL
  have hv0 := hv
  obtain ⟨p', cap', e, hle, hmx, hlm, _⟩ := hv
  cases e
  have hnews : ∀ j z, [u][j]? = some z → w.cell? (q.add j) = some z := by
    intro j z hz
    obtain ⟨hj, rfl⟩ := List.getElem?_eq_some_iff.1 hz
    obtain ⟨b, off, hp, hc⟩ := hat j hj
    cases hp
    have hadd : (⟨b, off, none⟩ : Addr).add j = ⟨b, off + j, none⟩ := by unfold Addr.add; split <;> simp_all
    rw [hadd]; exact hc
  have kk : ∀ o, Keeps w (w.drew.alloc o) := fun o => ((Keeps.refl w).drew).alloc o
  have fin : ∀ (olds : List Value) (cap' : Nat) (tl : Array Value), olds.length = xs.length → (∀ i (h1 : i < olds.length) (h2 : i < xs.length), Nds w olds[i] xs[i]) → xs.length + 1 ≤ cap' → cap' ≤ maxLen →
      NdsL (w.drew.alloc (.cells (olds.toArray ++ [u].toArray ++ tl) 24)) (.slice (some ⟨w.heap.size, 0, none⟩) (xs.length + 1) cap') (xs ++ [y]) := by
    intro olds cap' tl hl hr h1 h2
    refine ⟨some ⟨w.heap.size, 0, none⟩, cap', by simp, by simpa using h1, h2, by simp; omega, fun i hi => ?_⟩
    have hi' : i < xs.length + 1 := by simpa using hi
    have hcell : ∀ (z : Value), (olds ++ [u])[i]? = some z → (w.drew.alloc (.cells (olds.toArray ++ [u].toArray ++ tl) 24)).cell? ⟨w.heap.size, 0 + i * 1 + 0, none⟩ = some z := by
      intro z hz
      have : (w.drew.alloc (.cells (olds.toArray ++ [u].toArray ++ tl) 24)).cell? ⟨w.drew.heap.size, 0 + i * 1 + 0, none⟩ = (olds.toArray ++ [u].toArray ++ tl)[0 + i * 1 + 0]? := World.cell?_alloc_new ..
      rw [show w.heap.size = w.drew.heap.size from rfl, this]
      rw [show 0 + i * 1 + 0 = i by omega, Array.getElem?_append_left (by simp; omega)]
      simpa using hz
    by_cases hlt : i < xs.length
    · refine ⟨w.heap.size, 0, fun _ => olds[i]'(by omega), rfl, fun c hc => ?_, ?_⟩
      · obtain rfl : c = 0 := by omega
        exact hcell _ (by rw [List.getElem?_append_left (by omega), List.getElem?_eq_getElem])
      · rw [List.getElem_append_left hlt]
        exact (hr i (by omega) hlt).keeps (kk _)
    · obtain rfl : i = xs.length := by omega
      refine ⟨w.heap.size, 0, fun _ => u, rfl, fun c hc => ?_, ?_⟩
      · obtain rfl : c = 0 := by omega
        exact hcell _ (by rw [List.getElem?_append_right (by omega)]; simp [hl])
      · rw [List.getElem_append_right (Nat.le_refl _)]
        simpa using hu.keeps (kk _)
  cases p with
  | none =>
    have hx : xs = [] := by
      cases xs with
      | nil => rfl
      | cons x l =>
        obtain ⟨b, off, u', hp, _⟩ := hv0.get 0 (by simp)
        cases hp
    subst hx
    have hr := run_append_nil (P := Tryz.prog) w 35 ty 24 i0 _ Tryz.underlying35 hi hz0 q 1 c [u] (by rw [hz1]; rfl) hnews (by omega) (by omega) (by rw [hz2]; omega)
    refine ⟨_, _, hr, ?_, kk _⟩
    have := fin [] (grownCap w 1 0 24) (Builtin.zeroCells (Value.slice none 0 0).cells (grownCap w 1 0 24 - 1)) rfl (fun i h => by simp at h) (grownCap_ge w 1 0 _) (grownCap_le_maxLen w 1 0 _ (by simp [maxLen]))
    simpa using this
  | some ad =>
    have hcells : ∀ i (h : i < xs.length), ∃ z, w.cell? (ad.add i) = some z ∧ Nds w z xs[i] := by
      intro i h
      obtain ⟨b, off, u', hp, hc, hn⟩ := hv0.get i h
      cases hp
      have hadd : (⟨b, off, none⟩ : Addr).add i = ⟨b, off + i, none⟩ := by unfold Addr.add; split <;> simp_all
      exact ⟨u', by rw [hadd]; exact hc, hn⟩
    have hol : ((List.range xs.length).map fun i => (w.cell? (ad.add i)).getD undef).length = xs.length := by simp
    have holds : ∀ j z, ((List.range xs.length).map fun i => (w.cell? (ad.add i)).getD undef)[j]? = some z → w.cell? (ad.add j) = some z := by
      intro j z hz
      obtain ⟨hj, e⟩ := List.getElem?_eq_some_iff.1 hz
      simp at hj
      obtain ⟨z', hz', _⟩ := hcells j hj
      simp [hz'] at e
      rw [hz', e]
    have hr := run_append_grow (P := Tryz.prog) w 35 ty 24 i0 _ Tryz.underlying35 hi hz0 ad xs.length xs.length _ (by rw [hz1]; simp) holds q 1 c [u] (by rw [hz1]; rfl) hnews (by omega) (by omega) (growslice_fits (by omega) (by rw [hz2]; omega))
    refine ⟨_, _, hr, ?_, kk _⟩
    have := fin _ (grownCap w (xs.length + 1) xs.length 24) (Builtin.zeroCells (Value.slice none 0 0).cells (grownCap w (xs.length + 1) xs.length 24 - (xs.length + 1))) hol (fun i h1 h2 => by
      obtain ⟨z', hz', hn⟩ := hcells i h2
      simpa [hz'] using hn) (grownCap_ge w _ _ _) (grownCap_le_maxLen w _ _ _ (by simp [maxLen]; omega))
    exact this
theorem appClipK {w : World} {o : Oper} {a : Act} {K : Act → World → Prop} {Q : Exit → Act → World → Prop} (s x : Operand)
    (ho : o.op = .call { callee := .builtin .append, args := #[s, x], argTypes := #[35, 35] }) (p : Option Addr) (n : Nat) (xs : List (List Nd)) (hs : a.eval s = .slice p n n) (hv : NdsL w (.slice p n n) xs)
    (u : Value) (y : List Nd) (hu : Nds w u y) (q : Addr) (c : Nat) (hx : a.eval x = .slice (some q) 1 c) (hat : At w (some q) [u]) (hlen : xs.length ≤ 1000000)
    (h : ∀ v' w', NdsL w' v' (xs ++ [y]) → Keeps w w' → K (a.put o.dst v') w') : o.wp Tryz.prog a w K Q := by
  obtain ⟨v', w', hr, h1, h2⟩ := run_appClip w o.type p n xs u y q c hv hu hat hlen
  unfold Oper.wp execOp
  simp only [ho, resolve, invoke, builtin, Sem.run_bind, Sem.run_pure, Result.andThen_ok, List.map_toArray, List.map_cons, List.map_nil, hs, hx, hr]
  exact h v' w' h1 h2
theorem stepClip {w : World} {ops : Array Oper} {o : Oper} {a : Act} {K : Act → World → Prop} {Q : Exit → Act → World → Prop} {E : Prop} (hgd : o.guard = none) (s x : Operand)
    (ho : o.op = .call { callee := .builtin .append, args := #[s, x], argTypes := #[35, 35] }) (p : Option Addr) (n : Nat) (xs : List (List Nd)) (hs : a.eval s = .slice p n n) (hv : NdsL w (.slice p n n) xs)
    (u : Value) (y : List Nd) (hu : Nds w u y) (q : Addr) (c : Nat) (hx : a.eval x = .slice (some q) 1 c) (hat : At w (some q) [u]) (hlen : xs.length ≤ 1000000)
    (h : ∀ v' w', NdsL w' v' (xs ++ [y]) → Keeps w w' → K (a.put o.dst v') w') : if Region.wanted o (yielded ops a.tmps) = true then Oper.wp Tryz.prog o a w K Q else E := by
  rw [if_pos (by simp [Region.wanted, hgd])]
  exact appClipK s x ho p n xs hs hv u y hu q c hx hat hlen h
--
theorem clip_any (p : Option Addr) (n cap : Nat) (w : World) (h1 : n ≤ cap) (_h2 : cap ≤ maxLen) : Calls Tryz.prog 106 #[.slice p n cap] w fun e w' => e = .returned (.slice p n n) ∧ w = w' := by
  unfold maxLen at _h2
  go_enter Tryz.func106, Tryz.ntmps106
  go_wp2
  go_ret
  exact ⟨by first | rfl | simp, rfl⟩
--
set_option maxRecDepth 20000 in
set_option maxHeartbeats 2000000 in
theorem formulas_any (xs : List (List Nd)) (c : List Nd) (v u : Value) (w : World) (hv : NdsL w v xs) (hu : Nds w u c) (hl : xs.length ≤ 1000000) :
    Calls Tryz.prog 81 #[.agg #[v, u]] w fun e w' => ∃ v', e = .returned v' ∧ NdsL w' v' (xs ++ [c]) ∧ Keeps w w' := by
  have hv0 := hv
  obtain ⟨p, cap, rfl, hle, hmx, hlm, _⟩ := hv
  obtain ⟨pu, nu, cu, rfl⟩ := hu.shape
  have k1 := (Keeps.refl w).alloc (.cells #[.slice p xs.length cap, .slice pu nu cu] 37)
  have kd := k1.drew
  have kl := (k1.alloc (.cells #[.slice pu nu cu] 24)).drew
  have hb0 : (w.alloc (.cells #[.slice p xs.length cap, .slice pu nu cu] 37)).drew.cell? ⟨w.heap.size, 0, none⟩ = some (.slice p xs.length cap) := by show (w.alloc _).cell? _ = _; simp
  have hb1 : (w.alloc (.cells #[.slice p xs.length cap, .slice pu nu cu] 37)).drew.cell? ⟨w.heap.size, 1, none⟩ = some (.slice pu nu cu) := by show (w.alloc _).cell? _ = _; simp
  have ka := (Keeps.refl (w.alloc (.cells #[.slice p xs.length cap, .slice pu nu cu] 37)).drew).alloc (.cells #[.slice pu nu cu] 24)
  have hc0 := ka.cell hb0
  have hc1 := ka.cell hb1
  have hvl := hv0.keeps kl
  have hclip : NdsL ((w.alloc (.cells #[.slice p xs.length cap, .slice pu nu cu] 37)).alloc (.cells #[.slice pu nu cu] 24)).drew (.slice p xs.length xs.length) xs := by
    obtain ⟨p', cap', e, h1, h2, h3, h4⟩ := hvl
    cases e
    exact ⟨p, xs.length, rfl, Nat.le_refl _, by omega, h3, h4⟩
  have hul := hu.keeps kl
  have hatl : At ((w.alloc (.cells #[.slice p xs.length cap, .slice pu nu cu] 37)).alloc (.cells #[.slice pu nu cu] 24)).drew (some ⟨w.heap.size + 1, 0, none⟩) [.slice pu nu cu] := by
    have := (At.lit1 (w.alloc (.cells #[.slice p xs.length cap, .slice pu nu cu] 37)) (.slice pu nu cu) 24).keeps (Keeps.refl _).drew
    rwa [show (w.alloc (.cells #[.slice p xs.length cap, .slice pu nu cu] 37)).heap.size = w.heap.size + 1 by simp] at this
  clear hv0 hvl hu
  go_enter Tryz.func81, Tryz.ntmps81
  go_wp2_with fail
  go_region_held3 (fun w' => w'.cell? ⟨w.heap.size, 0, none⟩ = some (.slice p xs.length cap) ∧ w'.cell? ⟨w.heap.size, 1, none⟩ = some (.slice pu nu cu)) (first | exact ⟨hb0, hb1⟩ | exact ⟨hc0, hc1⟩ | exact ⟨hd0, hd1⟩) (first
    | (go_at_call 106; refine (clip_any _ _ _ _ hle hmx).mono ?_; rintro e w' ⟨rfl, rfl⟩)
    | (refine stepClip rfl (.tmp 5) (.tmp 8) rfl p xs.length xs rfl hclip _ c hul _ 1 rfl hatl hl ?_; intro v2 w2 hv2 k2; have hd0 := k2.cell hc0; have hd1 := k2.cell hc1))
  all_goals
    go_wp2
    go_ret
    exact ⟨_, rfl, hv2, kl.trans k2⟩
--
set_option maxRecDepth 20000 in
set_option maxHeartbeats 1000000 in
theorem arrow_two (x y : List Nd) (v : Value) (w : World) (hv : NdsL w v [x, y]) (hl : x.length + y.length ≤ 1000000000) : Calls Tryz.prog 128 #[v] w (RetN w (⟨4, 0⟩ :: (x ++ y))) := by
  have hv0 := hv
  obtain ⟨p, cap, rfl, hle, hmx, hlm, _⟩ := hv
  simp only [List.length_cons, List.length_nil] at *
  unfold maxLen at hmx
  obtain ⟨b, off, u1, rfl, hc1, h1⟩ := hv0.get 0 (by simp)
  obtain ⟨b', off', u2, e, hc2, h2⟩ := hv0.get 1 (by simp)
  cases e
  simp only [List.getElem_cons_zero, List.getElem_cons_succ] at h1 h2
  rw [Nat.add_zero] at hc1
  obtain ⟨p1, n1, q1, rfl⟩ := h1.shape
  obtain ⟨p2, n2, q2, rfl⟩ := h2.shape
  clear hv0
  have HJ := hid (join_any 4 x y _ _ w h1 h2 (by omega))
  clear h1 h2
  go_enter Tryz.func128, Tryz.ntmps128
  go_wp2
  go_loopw [3, 4] (fun o i' wr => (i' = .int .i64 0 ∧ o = .slice p2 n2 q2 ∧ wr = w) ∨ (i' = .int .i64 (-1) ∧ OwnN wr w.heap.size o (⟨4, 0⟩ :: (x ++ y)) ∧ Keeps w wr)) (fun _ i _ => (intOf i + 1).toNat)
  case atStart => exact .inl ⟨rfl, rfl, rfl⟩
  case round =>
    rcases hrel with ⟨rfl, rfl, rfl⟩ | ⟨rfl, ho, kw⟩
    · go_wp2_with fail
      refine HJ.out.mono ?_; rintro e w2 ⟨v2, rfl, hv2, k2⟩
      go_wp2_with fail
      go_roundw
      case rel => exact .inr ⟨rfl, hv2, k2⟩
      case measure => simp [intOf]
    · go_wp2
      go_ret
      exact ⟨_, rfl, ho, kw⟩
--
set_option maxRecDepth 20000 in
set_option maxHeartbeats 1000000 in
theorem l01Has_any (a : List Int) (x : Int) (v : Value) (w : World) (hv : Ints w v a) : Calls Tryz.prog 129 #[v, .int .i64 x] w fun e w' => e = .returned (.bool (a.any fun y => y == x)) ∧ w = w' := by
  obtain ⟨p, cap, rfl, hle, hmx, hat, hlen⟩ := hv
  unfold maxLen at hmx
  go_enter Tryz.func129, Tryz.ntmps129
  go_wp2
  go_loop [4, 5] (fun r i' => ∃ k : Nat, k ≤ a.length ∧ i' = .int .i64 k ∧ r = .bool false ∧ ∀ j (h : j < a.length), j < k → (a[j] == x) = false) (fun _ i => a.length - (intOf i).toNat)
  case atStart => exact ⟨0, by omega, rfl, rfl, fun j h hj => by omega⟩
  case round =>
    obtain ⟨k, hk, rfl, rfl, hs⟩ := hrel
    have Hs := hid hs; clear hs
    by_cases hlt : k < a.length
    · obtain ⟨b, off, rfl, hc⟩ := hat.int k hlt
      clear hat
      have hlt' : (k : Int) < a.length := by omega
      cases hf : (a[k] == x)
      · have Hf := hid hf
        go_wp2
        go_round
        case rel => exact ⟨k + 1, by omega, by go_num, rfl, fun j h hj => by
          by_cases e : j = k
          · subst e; exact Hf.out
          · exact Hs.out j h (by omega)⟩
        case measure => simp [intOf]; omega
      · have Hf := hid hf
        go_wp2
        go_ret
        exact ⟨ret_bool (List.any_eq_true.2 ⟨_, List.getElem_mem hlt, Hf.out⟩).symm, rfl⟩
    · go_wp2
      go_ret
      refine ⟨ret_bool ?_, rfl⟩
      symm; rw [Bool.eq_false_iff]; intro h
      obtain ⟨y, hy, h2⟩ := List.any_eq_true.1 h
      obtain ⟨j, hj, rfl⟩ := List.getElem_of_mem hy
      rw [Hs.out j hj (by omega)] at h2; cases h2
theorem has45 : ∀ m : Fin 64, ((mem m).any fun y => y == 4) = (m : Nat).testBit 4 ∧ ((mem m).any fun y => y == 5) = (m : Nat).testBit 5 := by decide +kernel
end Go.Proofs.YtodeecmhcfbheaaGreat
