/- Rows of strings that grow; lists of texts of formulas. -/
import Derived.Test.YtodeecmhcfbheaaGreatGP3
import Derived.Test.YtodeecmhcfbheaaGreatGW7
import Derived.Lib.AppendZeros
namespace Go.Proofs.YtodeecmhcfbheaaGreat
open Go.RowKit
def strCells (a : List ByteArray) : List Value := a.map Value.string
theorem strCells_one (a : List ByteArray) : ∀ u ∈ strCells a, u.oneCell' = true := by
  intro u hu; simp [strCells] at hu; obtain ⟨x, _, rfl⟩ := hu; rfl
theorem Strs.at {w : World} {v : Value} {a : List ByteArray} (h : Strs w v a) : ∃ p cap, v = .slice p a.length cap ∧ a.length ≤ cap ∧ cap ≤ maxLen ∧ At w p (strCells a) ∧ a.length ≤ 2147483648 := by
  obtain ⟨p, cap, hv, h1, h2, h3⟩ := h.shape
  subst hv
  refine ⟨p, cap, rfl, h1, h2, fun j hj => ?_, h3⟩
  have hj' : j < a.length := by simpa [strCells] using hj
  obtain ⟨b, off, hp, hc⟩ := h.get j hj'
  exact ⟨b, off, hp, by simpa [strCells] using hc⟩
theorem Strs.ofAt {w : World} {p : Option Addr} {cap : Nat} {a : List ByteArray} (h1 : a.length ≤ cap) (h2 : cap ≤ maxLen) (h : At w p (strCells a)) (h3 : a.length ≤ 2147483648) : Strs w (.slice p a.length cap) a := by
  refine ⟨p, cap, rfl, h1, h2, h3, fun i hi => ?_⟩
  obtain ⟨b, off, hp, hc⟩ := h i (by simpa [strCells] using hi)
  refine ⟨b, off, fun _ => .string a[i], hp, fun c hc' => ?_, rfl⟩
  obtain rfl : c = 0 := by omega
  simpa [strCells] using hc
def OwnS (w : World) (B : Nat) (v : Value) (a : List ByteArray) : Prop := w.ownsRow B 9 1 v a.length (strCells a)
theorem OwnS.strs {w : World} {B : Nat} {v : Value} {a : List ByteArray} (h : OwnS w B v a) (hl : a.length ≤ 2147483648) : Strs w v a := by
  obtain ⟨p, cap, rfl, h2, h3, h4⟩ := At.of_own h
  exact Strs.ofAt h2 h3 h4 hl
theorem OwnS.keeps {w w' : World} {B : Nat} {v : Value} {a : List ByteArray} (h : OwnS w B v a) (k : Keeps w w') : OwnS w' B v a := own_keeps h k
theorem OwnS.mono {w : World} {B B' : Nat} {v : Value} {a : List ByteArray} (h : OwnS w B v a) (k : B' ≤ B) : OwnS w B' v a := own_mono h k
theorem OwnS.nil (w : World) (B : Nat) : OwnS w B (.slice none 0 0) [] := World.ownsRow_nil w B _ 1
theorem OwnS.len {w : World} {B : Nat} {v : Value} {a : List ByteArray} (h : OwnS w B v a) : ∀ k, v.ownBlock = some k → B ≤ k ∧ k < w.heap.size := World.ownsRow.lt h
theorem infoS : (Tryz.prog.info? 9).map (fun i => (i.zero, i.size, i.bytes)) = some (some (.string ⟨#[]⟩), 1, 16) := by kernel_rfl
theorem appSK {w : World} {o : Oper} {a : Act} {K : Act → World → Prop} {Q : Exit → Act → World → Prop} (s x : Operand)
    (ho : o.op = .call { callee := .builtin .append, args := #[s, x], argTypes := #[30, 30] }) (base : Nat) (v : Value) (xs : List ByteArray) (hs : a.eval s = v) (hown : OwnS w base v xs)
    (u : Value) (ys : List ByteArray) (hx : a.eval x = u) (hu : Strs w u ys) (hbase : base ≤ w.heap.size) (hlen : xs.length + ys.length ≤ 2147483648)
    (h : ∀ v' w', OwnS w' base v' (xs ++ ys) → w.grownBy w' v.ownBlock → (∀ k, v.ownBlock = some k → base ≤ k) → K (a.put o.dst v') w') : o.wp Tryz.prog a w K Q := by
  obtain ⟨i0, hi, hz0, hz1, hz2⟩ := info_parts infoS
  obtain ⟨p, cap, rfl, _, _, hat, _⟩ := hu.at
  refine wp_append_at s x _ ho _ i0 _ 1 16 Tryz.underlying30 hi hz0 hz1 hz2 rfl (by decide) base v _ _ hs hown p _ cap _ hx (by simp [strCells]) hat (strCells_one _) (by unfold maxLen; omega) (by omega) hbase ?_
  intro v' w' h1 h2 h3
  refine h v' w' ?_ h2 h3
  unfold OwnS
  rw [List.length_append, show strCells (xs ++ ys) = strCells xs ++ strCells ys by simp [strCells]]
  exact h1
theorem appS {w : World} {ops : Array Oper} {rest : List Oper} {o : Oper} {a : Act} {Q : Exit → Act → World → Prop} (hgd : o.guard = none) (s x : Operand)
    (ho : o.op = .call { callee := .builtin .append, args := #[s, x], argTypes := #[30, 30] }) (base : Nat) (v : Value) (xs : List ByteArray) (hs : a.eval s = v) (hown : OwnS w base v xs)
    (u : Value) (ys : List ByteArray) (hx : a.eval x = u) (hu : Strs w u ys) (hbase : base ≤ w.heap.size) (hlen : xs.length + ys.length ≤ 2147483648)
    (h : ∀ v' w', OwnS w' base v' (xs ++ ys) → w.grownBy w' v.ownBlock → (∀ k, v.ownBlock = some k → base ≤ k) → wpList Tryz.prog ops Q rest (a.put o.dst v') w') : wpList Tryz.prog ops Q (o :: rest) a w :=
  wpList_plain hgd fun _ hK => appSK s x ho base v xs hs hown u ys hx hu hbase hlen fun v' w' h1 h2 h3 => hK _ _ (h v' w' h1 h2 h3)
theorem stepS {w : World} {ops : Array Oper} {o : Oper} {a : Act} {K : Act → World → Prop} {Q : Exit → Act → World → Prop} {E : Prop} (hgd : o.guard = none) (s x : Operand)
    (ho : o.op = .call { callee := .builtin .append, args := #[s, x], argTypes := #[30, 30] }) (base : Nat) (v : Value) (xs : List ByteArray) (hs : a.eval s = v) (hown : OwnS w base v xs)
    (u : Value) (ys : List ByteArray) (hx : a.eval x = u) (hu : Strs w u ys) (hbase : base ≤ w.heap.size) (hlen : xs.length + ys.length ≤ 2147483648)
    (h : ∀ v' w', OwnS w' base v' (xs ++ ys) → w.grownBy w' v.ownBlock → (∀ k, v.ownBlock = some k → base ≤ k) → K (a.put o.dst v') w') : if Region.wanted o (yielded ops a.tmps) = true then Oper.wp Tryz.prog o a w K Q else E := by
  rw [if_pos (by simp [Region.wanted, hgd])]
  exact appSK s x ho base v xs hs hown u ys hx hu hbase hlen h
theorem Strs.lit1 (w : World) (s : ByteArray) : Strs (w.alloc (.cells #[.string s] 9)) (.slice (some ⟨w.heap.size, 0, none⟩) 1 1) [s] := Strs.lit (w := w) [s] (by simp)
theorem Strs.lit2 (w : World) (s t : ByteArray) : Strs (w.alloc (.cells #[.string s, .string t] 9)) (.slice (some ⟨w.heap.size, 0, none⟩) 2 2) [s, t] := Strs.lit (w := w) [s, t] (by simp)
theorem OwnS.empty (w : World) : OwnS (w.alloc (.cells #[] 9)) w.heap.size (.slice (some ⟨w.heap.size, 0, none⟩) 0 0) [] :=
  World.ownsRow_made w #[] 0 (Nat.le_refl _) (by simp [maxLen]) (by simp)
/-- texts of formulas -/
def Txts (ss : List ByteArray) (G : List Fm) : Prop := ss.map bts = G.map Fm.body
theorem Txts.length {ss : List ByteArray} {G : List Fm} (h : Txts ss G) : ss.length = G.length := by
  have := congrArg List.length h
  simpa using this
theorem Txts.append {ss tt : List ByteArray} {G H : List Fm} (h : Txts ss G) (k : Txts tt H) : Txts (ss ++ tt) (G ++ H) := by
  unfold Txts at *; rw [List.map_append, List.map_append, h, k]
theorem Txts.get {ss : List ByteArray} {G : List Fm} (h : Txts ss G) (i : Nat) (h1 : i < ss.length) (h2 : i < G.length) : bts ss[i] = G[i].body := by
  have e : (ss.map bts)[i]? = (G.map Fm.body)[i]? := by rw [h]
  simpa [h1, h2] using e
theorem bts_inj {s t : ByteArray} (h : bts s = bts t) : s = t := by
  cases s; cases t
  unfold bts at h
  congr 1
  exact Array.toList_inj.1 h
end Go.Proofs.YtodeecmhcfbheaaGreat
/- slices.Grow and slices.Concat at []string. -/
namespace Go.Proofs.YtodeecmhcfbheaaGreat
open Go.RowKit
/-- a fresh list of strings -/
def RetSt (w : World) (r : List ByteArray) (e : Ending) (w' : World) : Prop := ∃ v, e = .returned v ∧ OwnS w' w.heap.size v r ∧ Keeps w w'
def StrL (w : World) (v : Value) (xs : List (List ByteArray)) : Prop := SlC 1 (fun w f x => Strs w (f 0) x) w v xs
theorem StrL.keeps {w w' : World} {v : Value} {xs : List (List ByteArray)} (h : StrL w v xs) (k : Keeps w w') : StrL w' v xs :=
  SlC.keeps (R := fun w f x => Strs w (f 0) x) (fun _ _ _ _ k h => Strs.keeps h k) h k
theorem StrL.get {w : World} {p : Option Addr} {n cap : Nat} {xs : List (List ByteArray)} (h : StrL w (.slice p n cap) xs) (i : Nat) (hi : i < xs.length) :
    ∃ b off u, p = some ⟨b, off, none⟩ ∧ w.cell? ⟨b, off + i, none⟩ = some u ∧ Strs w u xs[i] := by
  obtain ⟨p', cap', hv, h1, h2, h3, h4⟩ := h
  cases hv
  obtain ⟨b, off, f, hp, hc, hr⟩ := h4 i hi
  exact ⟨b, off, f 0, hp, by simpa using hc 0 (by omega), hr⟩
theorem StrL.lit2 {w : World} {u u' : Value} {x x' : List ByteArray} (h : Strs w u x) (h' : Strs w u' x') : StrL (w.alloc (.cells #[u, u'] 30)) (.slice (some ⟨w.heap.size, 0, none⟩) 2 2) [x, x'] :=
  SlC.lit (R := fun w f x => Strs w (f 0) x) (fun _ _ _ _ k h => Strs.keeps h k) w _ [u, u'] [x, x'] rfl (by simp) (fun i h1 h2 => by
    simp at h1
    have hi : i = 0 ∨ i = 1 := by omega
    rcases hi with rfl | rfl
    · exact h
    · exact h')
--
set_option maxRecDepth 20000 in
set_option maxHeartbeats 400000 in
theorem growS_any (n : Nat) (w : World) (hn : n ≤ 2147483648) :
    Calls Tryz.prog 217 #[.slice none 0 0, .int .i64 n] w (RetSt w []) := by
  obtain ⟨i0, hi, hz0, hz1, hz2⟩ := info_parts infoS
  by_cases h0 : 0 < n
  · have hrun := Lib.run_append_nil_zeros (P := Tryz.prog) w 30 3 30 9 i0 _ .i64 .i64 Tryz.underlying30 Tryz.underlying3 hi hz0 n h0 (by rw [hz1]; decide) (by omega) (by rw [hz2]; omega)
    have hge := grownCap_ge w n 0 9
    have hle := grownCap_le_maxLen w n 0 9 (by unfold maxLen; omega)
    unfold maxLen at hle
    have hown : OwnS (w.drew.alloc (.cells (Builtin.zeroCells (Value.string ⟨#[]⟩).cells n ++ Builtin.zeroCells (Value.string ⟨#[]⟩).cells (grownCap w n 0 9 - n)) 9)) w.heap.size (.slice (some ⟨w.heap.size, 0, none⟩) 0 (grownCap w n 0 9)) [] := by
      refine World.ownsRow_made w.drew _ _ (Nat.le_refl _) (by unfold maxLen; omega) ?_
      rw [Array.size_append, zeroCells_size, zeroCells_size]
      simp [Value.cells]
      omega
    have hk := ((Keeps.refl w).drew).alloc (.cells (Builtin.zeroCells (Value.string ⟨#[]⟩).cells n ++ Builtin.zeroCells (Value.string ⟨#[]⟩).cells (grownCap w n 0 9 - n)) 9)
    generalize w.drew.alloc (.cells (Builtin.zeroCells (Value.string ⟨#[]⟩).cells n ++ Builtin.zeroCells (Value.string ⟨#[]⟩).cells (grownCap w n 0 9 - n)) 9) = w1 at hrun hown hk
    generalize grownCap w n 0 9 = c1 at *
    have HR := hid hrun; clear hrun
    clear hz0 hz1 hz2 hi
    go_enter Tryz.func217, Tryz.ntmps217
    go_wp2_with (at_builtin; refine Lib.wpList_append_run _ rfl _ _ _ _ rfl _ _ rfl rfl _ _ HR.out ?_)
    go_ret
    exact ⟨_, rfl, hown, hk⟩
  · obtain rfl : n = 0 := by omega
    go_enter Tryz.func217, Tryz.ntmps217
    go_wp2
    go_ret
    exact ⟨_, rfl, OwnS.nil _ _, Keeps.refl _⟩
--
set_option maxHeartbeats 1000000 in
theorem concatS_any (l : List (List ByteArray)) (v : Value) (w : World) (hv : StrL w v l) (hl : (fl l l.length).length ≤ 2147483648) :
    Calls Tryz.prog 170 #[v] w (RetSt w (fl l l.length)) := by
  have hv0 := hv
  obtain ⟨p, cap, rfl, hle, hmx, hlen, _⟩ := hv
  unfold maxLen at hmx
  go_enter Tryz.func170, Tryz.ntmps170
  go_wp2
  go_loop [3, 11] (fun s i' => ∃ k : Nat, k ≤ l.length ∧ i' = .int .i64 k ∧ s = .int .i64 (fl l k).length) (fun _ i => l.length - (intOf i).toNat)
  case atStart => exact ⟨0, by omega, rfl, rfl⟩
  case round =>
    obtain ⟨k, hk, rfl, rfl⟩ := hrel
    have hf := fl_le l k
    by_cases hlt : k < l.length
    · obtain ⟨b, off, u, rfl, h1, hu0⟩ := hv0.get k hlt
      obtain ⟨pu, capu, rfl, g1, g2, g3, g4⟩ := hu0.at
      have hft := fl_succ l k hlt
      have hf2 := fl_le l (k + 1)
      have hlen2 : (fl l (k + 1)).length = (fl l k).length + l[k].length := by rw [hft]; simp
      have hsum : (fl l k).length + l[k].length ≤ 2147483648 := by omega
      have HL := hid hlen2; clear hlen2 hft hf2
      clear hv0
      go_wp2
      go_round
      case rel => exact ⟨k + 1, by omega, by go_num, by rw [HL.out]; go_num⟩
      case measure => simp [intOf]; omega
    · obtain rfl : k = l.length := by omega
      clear hf hk hlt
      go_wp2_with (go_at_call 217; refine (growS_any _ _ hl).mono ?_; rintro e w1 ⟨v1, rfl, hv1, k1⟩)
      go_loopw [6, 27] (fun s i' wr => ∃ k : Nat, k ≤ l.length ∧ i' = .int .i64 k ∧ OwnS wr w.heap.size s (fl l k) ∧ Keeps w wr) (fun _ i _ => l.length - (intOf i).toNat)
      case atStart => exact ⟨0, by omega, rfl, hv1, k1⟩
      case round =>
        obtain ⟨k, hk, rfl, hown, kw⟩ := hrel
        by_cases hlt : k < l.length
        · obtain ⟨b, off, u, rfl, h1, hu⟩ := (hv0.keeps kw).get k hlt
          have hft := fl_succ l k hlt
          have hf2 := fl_le l (k + 1)
          have hsum : (fl l k).length + l[k].length ≤ 2147483648 := by
            have : (fl l (k + 1)).length = (fl l k).length + l[k].length := by rw [hft]; simp
            omega
          have HF := hid hft; clear hft hf2
          clear hv0
          have hsz := kw.size
          go_wp2_with (at_builtin; refine appS rfl _ _ rfl w.heap.size _ _ rfl hown _ _ rfl hu hsz hsum ?_; intro v2 w2 hv2 hg2 hr2; have k2 : Keeps w w2 := kw.grown hg2 hr2)
          go_roundw
          case rel => exact ⟨k + 1, by omega, by go_num, by rw [HF.out]; exact hv2, k2⟩
          case measure => simp [intOf]; omega
        · obtain rfl : k = l.length := by omega
          go_wp2
          go_ret
          exact ⟨_, rfl, hown, kw⟩
end Go.Proofs.YtodeecmhcfbheaaGreat
