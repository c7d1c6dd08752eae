/- Walks of the small functions on numbers and of the reference's formula readers. -/
import Derived.Test.YtijdcpomalkkhaaGreatGBase
import Derived.Lib.SliceRun
namespace Go.Proofs.YtijdcpomalkkhaaGreat
open Go.RowKit

def idxOf {α : Type} (pr : α → Bool) : List α → Nat → Int
  | [], _ => -1
  | x :: l, k => if pr x then k else idxOf pr l (k + 1)
theorem idxOf_any {α : Type} (pr : α → Bool) (l : List α) : ∀ k, decide (idxOf pr l k ≥ 0) = l.any pr := by
  induction l with
  | nil => intro k; simp [idxOf]
  | cons x l ih =>
    intro k
    cases h : pr x
    · have := ih (k + 1); simp only [idxOf, List.any_cons, h]; simpa using this
    · simp only [idxOf, h, List.any_cons]; simp
theorem idxOf_drop {α : Type} (pr : α → Bool) (l : List α) (k : Nat) (h : k < l.length) : idxOf pr (l.drop k) k = if pr l[k] then (k : Int) else idxOf pr (l.drop (k + 1)) (k + 1) := by
  rw [List.drop_eq_getElem_cons h]; rfl
theorem idxOf_end {α : Type} (pr : α → Bool) (l : List α) (k : Nat) (h : l.length ≤ k) : idxOf pr (l.drop k) k = -1 := by
  rw [List.drop_eq_nil_of_le h]; rfl
/-- the callee's text is there -/
def Enters (f : FuncId) : Prop := ∀ args w, (callFunc f args).run Tryz.prog w = .ok (.enter f args) w
def inR (x l h : Int) : Bool := decide (l ≤ x ∧ x ≤ h)
--
set_option maxHeartbeats 400000 in
theorem l01In_any (x l h : Int) (w : World) : Calls Tryz.prog 137 #[.int .i64 x, .int .i64 l, .int .i64 h] w fun e w' => e = .returned (.bool (inR x l h)) ∧ w = w' := by
  by_cases h1 : l ≤ x
  · by_cases h2 : x ≤ h
    all_goals
      go_enter Tryz.func137, Tryz.ntmps137
      go_wp2
      go_ret
      exact ⟨ret_bool (by simp [inR, *]), rfl⟩
  · go_enter Tryz.func137, Tryz.ntmps137
    go_wp2
    go_ret
    exact ⟨ret_bool (by simp [inR]; omega), rfl⟩
--
set_option maxHeartbeats 400000 in
theorem inRange_any (x l h : Int) (w : World) : Calls Tryz.prog 170 #[.int .i64 x, .int .i64 l, .int .i64 h] w fun e w' => e = .returned (.bool (inR x l h)) ∧ w = w' := by
  by_cases h1 : l ≤ x
  · by_cases h2 : x ≤ h
    all_goals
      go_enter Tryz.func170, Tryz.ntmps170
      go_wp2
      go_ret
      exact ⟨ret_bool (by simp [inR, *]), rfl⟩
  · go_enter Tryz.func170, Tryz.ntmps170
    go_wp2
    go_ret
    exact ⟨ret_bool (by simp [inR]; omega), rfl⟩
--
set_option maxHeartbeats 400000 in
theorem l02Parts_any (k : Int) (w : World) :
    Calls Tryz.prog 165 #[.int .i64 k] w fun e w' => e = .returned (.int .i64 (partsOf k)) ∧ w = w' := by
  go_enter Tryz.func165, Tryz.ntmps165
  go_wp2
  all_goals go_ret
  all_goals refine ⟨ret_int ?_, rfl⟩
  all_goals (simp_all [partsOf])
--
set_option maxHeartbeats 400000 in
theorem partsOf_any (k : Int) (w : World) :
    Calls Tryz.prog 171 #[.int .i64 k] w fun e w' => e = .returned (.int .i64 (partsOf k)) ∧ w = w' := by
  go_enter Tryz.func171, Tryz.ntmps171
  go_wp2
  all_goals go_ret
  all_goals refine ⟨ret_int ?_, rfl⟩
  all_goals (simp_all [partsOf])
--
set_option maxHeartbeats 400000 in
theorem l02Part_any (a : List Nd) (v : Value) (i : Int) (w : World) (hv : Nds w v a) (h0 : 0 ≤ i) (hi : i ≤ a.length) :
    Calls Tryz.prog 138 #[v, .int .i64 i] w fun e w' => e = .returned (.int .i64 (skipInt 1 a i.toNat)) ∧ w = w' := by
  obtain ⟨i, rfl⟩ := Int.eq_ofNat_of_zero_le h0
  rw [Int.toNat_natCast]
  obtain ⟨p, cap, rfl, hle, hmx, hr, hlen⟩ := hv
  unfold maxLen at hmx
  go_enter Tryz.func138, Tryz.ntmps138
  go_wp2
  go_loop [1, 4, 5] (fun i' r o => ∃ k op : Nat, k ≤ a.length ∧ op ≤ 1 + k ∧ skipInt 1 a i = skipInt op a k ∧ i' = .int .i64 k ∧ o = .int .i64 op ∧ r = .int .i64 0) (fun i _ _ => a.length - (intOf i).toNat)
  case atStart => exact ⟨i, 1, by omega, by omega, rfl, rfl, rfl, rfl⟩
  case round =>
    obtain ⟨k, op, hk, hop, hs, rfl, rfl, rfl⟩ := hrel
    have Hs := hid hs; clear hs
    by_cases h0 : 0 < op
    · by_cases hlt : k < a.length
      · obtain ⟨b, off, rfl, h1, h2⟩ := hr.nd k hlt
        have hp := partsOf_le a[k].k
        clear hr h2
        go_wp2_with (go_at_call 165; refine (l02Parts_any _ _).mono ?_; rintro e w' ⟨rfl, rfl⟩)
        go_round
        case rel => exact ⟨k + 1, op - 1 + partsOf a[k].k, by omega, by omega, by rw [Hs.out]; obtain ⟨q, rfl⟩ : ∃ q, op = q + 1 := ⟨op - 1, by omega⟩; exact skip_step q a k hlt, by go_num, by go_num, rfl⟩
        case measure => simp [intOf]; omega
      · go_wp2
        go_ret
        refine ⟨ret_int ?_, rfl⟩
        obtain ⟨q, rfl⟩ : ∃ q, op = q + 1 := ⟨op - 1, by omega⟩
        rw [Hs.out, skip_end _ _ _ (by omega)]
    · go_wp2
      go_ret
      refine ⟨ret_int ?_, rfl⟩
      obtain rfl : op = 0 := by omega
      rw [Hs.out, skip_zero _ _ hk]
--
set_option maxHeartbeats 400000 in
theorem partEnd_any (a : List Nd) (v : Value) (i : Int) (w : World) (hv : Nds w v a) (h0 : 0 ≤ i) (hi : i ≤ a.length) :
    Calls Tryz.prog 147 #[v, .int .i64 i] w fun e w' => e = .returned (.int .i64 (skipInt 1 a i.toNat)) ∧ w = w' := by
  obtain ⟨i, rfl⟩ := Int.eq_ofNat_of_zero_le h0
  rw [Int.toNat_natCast]
  obtain ⟨p, cap, rfl, hle, hmx, hr, hlen⟩ := hv
  unfold maxLen at hmx
  go_enter Tryz.func147, Tryz.ntmps147
  go_wp2
  go_loop [1, 4, 5] (fun i' r o => ∃ k op : Nat, k ≤ a.length ∧ op ≤ 1 + k ∧ skipInt 1 a i = skipInt op a k ∧ i' = .int .i64 k ∧ o = .int .i64 op ∧ r = .int .i64 0) (fun i _ _ => a.length - (intOf i).toNat)
  case atStart => exact ⟨i, 1, by omega, by omega, rfl, rfl, rfl, rfl⟩
  case round =>
    obtain ⟨k, op, hk, hop, hs, rfl, rfl, rfl⟩ := hrel
    have Hs := hid hs; clear hs
    by_cases h0 : 0 < op
    · by_cases hlt : k < a.length
      · obtain ⟨b, off, rfl, h1, h2⟩ := hr.nd k hlt
        have hp := partsOf_le a[k].k
        clear hr h2
        go_wp2_with (go_at_call 171; refine (partsOf_any _ _).mono ?_; rintro e w' ⟨rfl, rfl⟩)
        go_round
        case rel => exact ⟨k + 1, op - 1 + partsOf a[k].k, by omega, by omega, by rw [Hs.out]; obtain ⟨q, rfl⟩ : ∃ q, op = q + 1 := ⟨op - 1, by omega⟩; exact skip_step q a k hlt, by go_num, by go_num, rfl⟩
        case measure => simp [intOf]; omega
      · go_wp2
        go_ret
        refine ⟨ret_int ?_, rfl⟩
        obtain ⟨q, rfl⟩ : ∃ q, op = q + 1 := ⟨op - 1, by omega⟩
        rw [Hs.out, skip_end _ _ _ (by omega)]
    · go_wp2
      go_ret
      refine ⟨ret_int ?_, rfl⟩
      obtain rfl : op = 0 := by omega
      rw [Hs.out, skip_zero _ _ hk]
--
set_option maxHeartbeats 1000000 in
theorem l02Tree_any (a : List Nd) (v : Value) (w : World) (hv : Nds w v a) :
    Calls Tryz.prog 92 #[v] w fun e w' => e = .returned (.bool (isTree a)) ∧ w = w' := by
  have hv0 := hv
  obtain ⟨p, cap, rfl, hle, hmx, hr, hlen⟩ := hv
  unfold maxLen at hmx
  go_enter Tryz.func92, Tryz.ntmps92
  go_wp2
  go_loop [2, 3] (fun r i' => ∃ k : Nat, k ≤ a.length ∧ (∀ j (h : j < a.length), j < k → okNd a[j] = true) ∧ i' = .int .i64 k ∧ r = .bool false) (fun _ i => a.length - (intOf i).toNat)
  case atStart => exact ⟨0, by omega, by omega, rfl, rfl⟩
  case round =>
    obtain ⟨k, hk, hs, rfl, rfl⟩ := hrel
    have Hs := hid hs; clear hs
    by_cases hlt : k < a.length
    · obtain ⟨b, off, rfl, h1, h2⟩ := hr.nd k hlt
      clear hr hv0
      by_cases g1 : inR a[k].k 0 6 = true
      · by_cases g2 : inR a[k].s 0 5 = true
        · by_cases g3 : a[k].k = 0
          · have G3 := hid g3
            have g3' : (a[k].k != 0) = false := by simp [g3]
            clear g3
            go_wp2_with (go_at_call 137; refine (l01In_any _ _ _ _).mono ?_; rintro e w' ⟨rfl, rfl⟩)
            go_round
            case rel =>
              refine ⟨k + 1, by omega, ?_, by go_num, rfl⟩
              intro j hj hjk
              by_cases e : j = k
              · subst e; have := G3.out; simp [inR] at g2; simp [okNd, this]; omega
              · exact Hs.out j hj (by omega)
            case measure => simp [intOf]; omega
          · have g3' : (a[k].k != 0) = true := by simp [g3]
            have G3 := hid g3; clear g3
            by_cases g4 : a[k].s = 0
            · have G4 := hid g4
              have g4' : (a[k].s != 0) = false := by simp [g4]
              clear g4
              go_wp2_with (go_at_call 137; refine (l01In_any _ _ _ _).mono ?_; rintro e w' ⟨rfl, rfl⟩)
              go_round
              case rel =>
                refine ⟨k + 1, by omega, ?_, by go_num, rfl⟩
                intro j hj hjk
                by_cases e : j = k
                · subst e; have h3 := G3.out; have h4 := G4.out; simp [inR] at g1; simp [okNd, h3, h4]; omega
                · exact Hs.out j hj (by omega)
              case measure => simp [intOf]; omega
            · have g4' : (a[k].s != 0) = true := by simp [g4]
              have hbad : isTree a = false := by
                have : okNd a[k] = false := by have := G3.out; simp [okNd, this]; omega
                simp only [isTree, Bool.and_eq_false_iff]; left; rw [List.all_eq_false]; exact ⟨a[k], by simp, by simp [this]⟩
              have Hb := hid hbad; clear hbad g4
              go_wp2_with (go_at_call 137; refine (l01In_any _ _ _ _).mono ?_; rintro e w' ⟨rfl, rfl⟩)
              go_ret
              exact ⟨ret_bool Hb.out.symm, rfl⟩
        · have hbad : isTree a = false := by
            have : okNd a[k] = false := by simp [inR] at g1 g2; simp only [okNd]; split <;> simp <;> omega
            simp only [isTree, Bool.and_eq_false_iff]; left; rw [List.all_eq_false]; exact ⟨a[k], by simp, by simp [this]⟩
          have Hb := hid hbad; clear hbad
          simp only [Bool.not_eq_true] at g2
          go_wp2_with (go_at_call 137; refine (l01In_any _ _ _ _).mono ?_; rintro e w' ⟨rfl, rfl⟩)
          go_ret
          exact ⟨ret_bool Hb.out.symm, rfl⟩
      · have hbad : isTree a = false := by
          have : okNd a[k] = false := by simp [inR] at g1; simp only [okNd]; split <;> simp <;> omega
          simp only [isTree, Bool.and_eq_false_iff]; left; rw [List.all_eq_false]; exact ⟨a[k], by simp, by simp [this]⟩
        have Hb := hid hbad; clear hbad
        simp only [Bool.not_eq_true] at g1
        go_wp2_with (go_at_call 137; refine (l01In_any _ _ _ _).mono ?_; rintro e w' ⟨rfl, rfl⟩)
        go_ret
        exact ⟨ret_bool Hb.out.symm, rfl⟩
    · have hall : a.all okNd = true := by
        rw [List.all_eq_true]; intro x hx
        obtain ⟨j, hj, rfl⟩ := List.getElem_of_mem hx
        exact Hs.out j hj (by omega)
      have Ha := hid hall; clear hall
      by_cases h0 : 0 < a.length
      · go_wp2_with (go_at_call 138; refine (l02Part_any _ _ _ _ hv0 (by omega) (by omega)).mono ?_; rintro e w' ⟨rfl, rfl⟩)
        go_ret
        exact ⟨ret_bool (by simp [isTree, Ha.out]; omega), rfl⟩
      · go_wp2
        go_ret
        exact ⟨ret_bool (by simp [isTree]; omega), rfl⟩
end Go.Proofs.YtijdcpomalkkhaaGreat
/- Rows of strings that grow. -/
namespace Go.Proofs.YtijdcpomalkkhaaGreat
open Go.RowKit
/-- the bytes of a text -/
def bts (s : ByteArray) : List UInt8 := s.data.toList
def strCells (a : List ByteArray) : List Value := a.map Value.string
theorem strCells_one (a : List ByteArray) : ∀ u ∈ strCells a, u.oneCell' = true := by
  intro u hu; simp [strCells] at hu; obtain ⟨x, _, rfl⟩ := hu; rfl
theorem Strs.at {w : World} {v : Value} {a : List ByteArray} (h : Strs w v a) : ∃ p cap, v = .slice p a.length cap ∧ a.length ≤ cap ∧ cap ≤ maxLen ∧ At w p (strCells a) ∧ a.length ≤ 2147483648 := by
  obtain ⟨p, cap, hv, h1, h2, h3⟩ := h.shape
  subst hv
  refine ⟨p, cap, rfl, h1, h2, fun j hj => ?_, h3⟩
  have hj' : j < a.length := by simpa [strCells] using hj
  obtain ⟨b, off, hp, hc⟩ := h.get j hj'
  exact ⟨b, off, hp, by simpa [strCells] using hc⟩
theorem Strs.ofAt {w : World} {p : Option Addr} {cap : Nat} {a : List ByteArray} (h1 : a.length ≤ cap) (h2 : cap ≤ maxLen) (h : At w p (strCells a)) (h3 : a.length ≤ 2147483648) : Strs w (.slice p a.length cap) a := by
  refine ⟨p, cap, rfl, h1, h2, h3, fun i hi => ?_⟩
  obtain ⟨b, off, hp, hc⟩ := h i (by simpa [strCells] using hi)
  refine ⟨b, off, fun _ => .string a[i], hp, fun c hc' => ?_, rfl⟩
  obtain rfl : c = 0 := by omega
  simpa [strCells] using hc
def OwnS (w : World) (B : Nat) (v : Value) (a : List ByteArray) : Prop := w.ownsRow B 9 1 v a.length (strCells a)
theorem OwnS.strs {w : World} {B : Nat} {v : Value} {a : List ByteArray} (h : OwnS w B v a) (hl : a.length ≤ 2147483648) : Strs w v a := by
  obtain ⟨p, cap, rfl, h2, h3, h4⟩ := At.of_own h
  exact Strs.ofAt h2 h3 h4 hl
theorem OwnS.keeps {w w' : World} {B : Nat} {v : Value} {a : List ByteArray} (h : OwnS w B v a) (k : Keeps w w') : OwnS w' B v a := own_keeps h k
theorem OwnS.mono {w : World} {B B' : Nat} {v : Value} {a : List ByteArray} (h : OwnS w B v a) (k : B' ≤ B) : OwnS w B' v a := own_mono h k
theorem OwnS.nil (w : World) (B : Nat) : OwnS w B (.slice none 0 0) [] := World.ownsRow_nil w B _ 1
theorem OwnS.len {w : World} {B : Nat} {v : Value} {a : List ByteArray} (h : OwnS w B v a) : ∀ k, v.ownBlock = some k → B ≤ k ∧ k < w.heap.size := World.ownsRow.lt h
theorem infoS : (Tryz.prog.info? 9).map (fun i => (i.zero, i.size, i.bytes)) = some (some (.string ⟨#[]⟩), 1, 16) := by kernel_rfl
theorem appSK {w : World} {o : Oper} {a : Act} {K : Act → World → Prop} {Q : Exit → Act → World → Prop} (s x : Operand)
    (ho : o.op = .call { callee := .builtin .append, args := #[s, x], argTypes := #[22, 22] }) (base : Nat) (v : Value) (xs : List ByteArray) (hs : a.eval s = v) (hown : OwnS w base v xs)
    (u : Value) (ys : List ByteArray) (hx : a.eval x = u) (hu : Strs w u ys) (hbase : base ≤ w.heap.size) (hlen : xs.length + ys.length ≤ 2147483648)
    (h : ∀ v' w', OwnS w' base v' (xs ++ ys) → w.grownBy w' v.ownBlock → (∀ k, v.ownBlock = some k → base ≤ k) → K (a.put o.dst v') w') : o.wp Tryz.prog a w K Q := by
  obtain ⟨i0, hi, hz0, hz1, hz2⟩ := info_parts infoS
  obtain ⟨p, cap, rfl, _, _, hat, _⟩ := hu.at
  refine wp_append_at s x _ ho _ i0 _ 1 16 Tryz.underlying22 hi hz0 hz1 hz2 rfl (by decide) base v _ _ hs hown p _ cap _ hx (by simp [strCells]) hat (strCells_one _) (by unfold maxLen; omega) (by omega) hbase ?_
  intro v' w' h1 h2 h3
  refine h v' w' ?_ h2 h3
  unfold OwnS
  rw [List.length_append, show strCells (xs ++ ys) = strCells xs ++ strCells ys by simp [strCells]]
  exact h1
theorem appS {w : World} {ops : Array Oper} {rest : List Oper} {o : Oper} {a : Act} {Q : Exit → Act → World → Prop} (hgd : o.guard = none) (s x : Operand)
    (ho : o.op = .call { callee := .builtin .append, args := #[s, x], argTypes := #[22, 22] }) (base : Nat) (v : Value) (xs : List ByteArray) (hs : a.eval s = v) (hown : OwnS w base v xs)
    (u : Value) (ys : List ByteArray) (hx : a.eval x = u) (hu : Strs w u ys) (hbase : base ≤ w.heap.size) (hlen : xs.length + ys.length ≤ 2147483648)
    (h : ∀ v' w', OwnS w' base v' (xs ++ ys) → w.grownBy w' v.ownBlock → (∀ k, v.ownBlock = some k → base ≤ k) → wpList Tryz.prog ops Q rest (a.put o.dst v') w') : wpList Tryz.prog ops Q (o :: rest) a w :=
  wpList_plain hgd fun _ hK => appSK s x ho base v xs hs hown u ys hx hu hbase hlen fun v' w' h1 h2 h3 => hK _ _ (h v' w' h1 h2 h3)
theorem stepS {w : World} {ops : Array Oper} {o : Oper} {a : Act} {K : Act → World → Prop} {Q : Exit → Act → World → Prop} {E : Prop} (hgd : o.guard = none) (s x : Operand)
    (ho : o.op = .call { callee := .builtin .append, args := #[s, x], argTypes := #[22, 22] }) (base : Nat) (v : Value) (xs : List ByteArray) (hs : a.eval s = v) (hown : OwnS w base v xs)
    (u : Value) (ys : List ByteArray) (hx : a.eval x = u) (hu : Strs w u ys) (hbase : base ≤ w.heap.size) (hlen : xs.length + ys.length ≤ 2147483648)
    (h : ∀ v' w', OwnS w' base v' (xs ++ ys) → w.grownBy w' v.ownBlock → (∀ k, v.ownBlock = some k → base ≤ k) → K (a.put o.dst v') w') : if Region.wanted o (yielded ops a.tmps) = true then Oper.wp Tryz.prog o a w K Q else E := by
  rw [if_pos (by simp [Region.wanted, hgd])]
  exact appSK s x ho base v xs hs hown u ys hx hu hbase hlen h
/-! ### append onto an empty literal: a fresh row -/
theorem run_append_fresh {P : Program} (w : World) (t ty e : TypeId) (i : TypeInfo) (z : Value) (size bytes : Nat) (ht : P.underlying t = some (.slice e)) (hi : P.info? e = some i) (hz : i.zero = some z)
    (hsize : i.size = size) (hby : i.bytes = bytes) (hzs : z.cells.size = size) (b a : Addr) (m c : Nat) (news : List Value) (hl : news.length = m * size) (hnews : ∀ j u, news[j]? = some u → w.cell? (a.add j) = some u)
    (h0 : 0 < m) (h63 : m ≤ maxLen) (hbytes : m * bytes ≤ 140737488355328) :
    ∃ v' w', (Builtin.append_ #[t, t] ty #[.slice (some b) 0 0, .slice (some a) m c]).run P w = .ok v' w' ∧ w'.ownsRow w.heap.size e size v' m news ∧ Keeps w w' := by
  subst hsize
  subst hby
  have hsmall : m ≤ 9223372036854775807 := by simp only [maxLen] at h63; omega
  have hr := run_append_grow (P := P) w t ty e i z ht hi hz b 0 0 [] (by simp) (fun j u h => by simp at h) a m c news hl hnews (by omega) (by omega) (by
    have h := growslice_fits (old := 0) (need := 0 + m) (by omega) (by simpa using hbytes)
    exact h)
  simp only [Nat.zero_add] at hr
  have hge := grownCap_ge w m 0 e
  have hcm : grownCap w m 0 e ≤ maxLen := grownCap_le_maxLen w m 0 e h63
  refine ⟨_, _, hr, ⟨hl, .inr ⟨w.heap.size, _, _, rfl, Nat.le_refl _, heap_alloc_new w.drew _, hge, hcm, ?_, ?_⟩⟩, (Keeps.refl w).drew.alloc _⟩
  · simp only [Array.size_append, List.size_toArray, size_zeroCells, hzs, hl, List.length_nil, Nat.zero_add, ← Nat.add_mul]
    congr 1
    omega
  · simp only [Array.toList_append, List.nil_append, ← hl]
    exact List.take_left
theorem appSFK {w : World} {o : Oper} {a : Act} {K : Act → World → Prop} {Q : Exit → Act → World → Prop} (s x : Operand)
    (ho : o.op = .call { callee := .builtin .append, args := #[s, x], argTypes := #[22, 22] }) (ad : Addr) (hs : a.eval s = .slice (some ad) 0 0)
    (u : Value) (ys : List ByteArray) (hx : a.eval x = u) (hu : Strs w u ys) (h0 : 0 < ys.length) (hlen : ys.length ≤ 2147483648)
    (h : ∀ v' w', OwnS w' w.heap.size v' ys → Keeps w w' → K (a.put o.dst v') w') : o.wp Tryz.prog a w K Q := by
  obtain ⟨i0, hi, hz0, hz1, hz2⟩ := info_parts infoS
  obtain ⟨p, cap, rfl, _, _, hat, _⟩ := hu.at
  cases p with
  | none => obtain ⟨b, off, hp, _⟩ := hat 0 (by simpa [strCells] using h0); cases hp
  | some bd =>
    obtain ⟨v', w', hr, h1, h2⟩ := run_append_fresh (P := Tryz.prog) w 22 o.type _ i0 _ 1 16 Tryz.underlying22 hi hz0 hz1 hz2 rfl ad bd ys.length cap (strCells ys) (by simp [strCells]) (fun j u' hu' => by
      obtain ⟨hj, rfl⟩ := List.getElem?_eq_some_iff.1 hu'
      obtain ⟨b, off, hp, hc⟩ := hat j hj
      cases hp
      have hadd : (⟨b, off, none⟩ : Addr).add j = ⟨b, off + j, none⟩ := by unfold Addr.add; split <;> simp_all
      rw [hadd]; exact hc) h0 (by unfold maxLen; omega) (by omega)
    unfold Oper.wp execOp
    simp only [ho, resolve, invoke, builtin, Sem.run_bind, Sem.run_pure, Result.andThen_ok, List.map_toArray, List.map_cons, List.map_nil, hs, hx, hr]
    exact h _ _ h1 h2
theorem appSF {w : World} {ops : Array Oper} {rest : List Oper} {o : Oper} {a : Act} {Q : Exit → Act → World → Prop} (hgd : o.guard = none) (s x : Operand)
    (ho : o.op = .call { callee := .builtin .append, args := #[s, x], argTypes := #[22, 22] }) (ad : Addr) (hs : a.eval s = .slice (some ad) 0 0)
    (u : Value) (ys : List ByteArray) (hx : a.eval x = u) (hu : Strs w u ys) (h0 : 0 < ys.length) (hlen : ys.length ≤ 2147483648)
    (h : ∀ v' w', OwnS w' w.heap.size v' ys → Keeps w w' → wpList Tryz.prog ops Q rest (a.put o.dst v') w') : wpList Tryz.prog ops Q (o :: rest) a w :=
  wpList_plain hgd fun _ hK => appSFK s x ho ad hs u ys hx hu h0 hlen fun v' w' h1 h2 => hK _ _ (h v' w' h1 h2)
theorem Strs.lit1 (w : World) (s : ByteArray) : Strs (w.alloc (.cells #[.string s] 9)) (.slice (some ⟨w.heap.size, 0, none⟩) 1 1) [s] := Strs.lit (w := w) [s] (by simp)
theorem Strs.lit2 (w : World) (s t : ByteArray) : Strs (w.alloc (.cells #[.string s, .string t] 9)) (.slice (some ⟨w.heap.size, 0, none⟩) 2 2) [s, t] := Strs.lit (w := w) [s, t] (by simp)
theorem OwnS.empty (w : World) : OwnS (w.alloc (.cells #[] 9)) w.heap.size (.slice (some ⟨w.heap.size, 0, none⟩) 0 0) [] :=
  World.ownsRow_made w #[] 0 (Nat.le_refl _) (by simp [maxLen]) (by simp)
theorem bts_inj {s t : ByteArray} (h : bts s = bts t) : s = t := by
  cases s; cases t
  unfold bts at h
  congr 1
  exact Array.toList_inj.1 h
theorem At.drop {w : World} {b off : Nat} {vs : List Value} (h : At w (some ⟨b, off, none⟩) vs) (i : Nat) {o : Nat} (ho : o = off + i) : At w (some ⟨b, o, none⟩) (vs.drop i) := fun j hj => by
  subst ho
  simp at hj
  obtain ⟨b', off', hp, hc⟩ := h (i + j) (by omega)
  cases hp
  exact ⟨b, _, rfl, by rw [Nat.add_assoc, hc]; simp⟩
end Go.Proofs.YtijdcpomalkkhaaGreat
/- slices.IndexFunc, ContainsFunc at []string. -/
namespace Go.Proofs.YtijdcpomalkkhaaGreat
open Go.RowKit
--
set_option maxHeartbeats 400000 in
theorem indexFuncS (pr : ByteArray → Bool) (f : FuncId) (cp : Array Value) (a : List ByteArray) (v : Value) (w : World) (hv : Strs w v a) (hcf : Enters f)
    (hf : ∀ x w1, x ∈ a → Keeps w w1 → Calls Tryz.prog f (#[.string x] ++ cp) w1 fun e w2 => e = .returned (.bool (pr x)) ∧ Keeps w1 w2) :
    Calls Tryz.prog 90 #[v, .func (.func f) #[] cp] w fun e w' => e = .returned (.int .i64 (idxOf pr a 0)) ∧ Keeps w w' := by
  have hv0 := hv
  obtain ⟨p, cap, rfl, hle, hmx, _, hlen⟩ := hv.at
  unfold maxLen at hmx
  have HF := hid hf; clear hf
  have hcf' : ∀ args w, (callFunc f args).run Tryz.prog w = .ok (.enter f args) w := hcf
  clear hcf
  go_enter Tryz.func90, Tryz.ntmps90
  go_wp2
  go_loopw [4, 8] (fun r i' wr => ∃ k : Nat, k ≤ a.length ∧ idxOf pr a 0 = idxOf pr (a.drop k) k ∧ Keeps w wr ∧ i' = .int .i64 k ∧ r = .int .i64 0) (fun _ i _ => a.length - (intOf i).toNat)
  case atStart => exact ⟨0, by omega, by simp, Keeps.refl w, rfl, rfl⟩
  case round =>
    obtain ⟨k, hk, hs, kw, rfl, rfl⟩ := hrel
    have Hs := hid hs; clear hs
    by_cases hlt : k < a.length
    · obtain ⟨b, off, rfl, h1⟩ := (hv0.keeps kw).get k hlt
      have hd := hid (idxOf_drop pr a k hlt)
      clear hv0
      cases hp : pr a[k]
      all_goals
        have Hp := hid hp; clear hp
        go_wp2_with ((with_reducible refine (HF.out a[k] wr (List.getElem_mem hlt) kw).mono ?_); rintro e w2 ⟨rfl, k2⟩; rw [Hp.out])
      · go_roundw
        case rel => exact ⟨k + 1, by omega, by rw [Hs.out, hd.out, Hp.out]; rfl, kw.trans k2, by go_num, rfl⟩
        case measure => simp [intOf]; omega
      · go_ret
        exact ⟨ret_int (by rw [Hs.out, hd.out, Hp.out]; rfl), kw.trans k2⟩
    · go_wp2
      go_ret
      exact ⟨ret_int (by rw [Hs.out, idxOf_end _ _ _ (by omega)]), kw⟩
end Go.Proofs.YtijdcpomalkkhaaGreat
/- DeleteFunc at []string. -/
namespace Go.Proofs.YtijdcpomalkkhaaGreat
open Go.RowKit
theorem OwnS.store {w : World} {B : Nat} {g cap : Nat} {a : List ByteArray} (h : OwnS w B (.slice (some ⟨g, 0, none⟩) a.length cap) a) (i : Nat) (x : ByteArray) :
    OwnS (w.setCell ⟨g, i, none⟩ (.string x)) B (.slice (some ⟨g, 0, none⟩) a.length cap) (a.set i x) ∧ w.grownBy (w.setCell ⟨g, i, none⟩ (.string x)) (some g) := by
  have h' : w.ownsRow B 9 1 (.slice (some ⟨g, 0, none⟩) a.length cap) a.length (strCells a) := h
  have := h'.stored i (.string x)
  refine ⟨?_, this.2⟩
  unfold OwnS
  rw [List.length_set, show strCells (a.set i x) = (strCells a).set i (.string x) by simp [strCells, List.map_set]]
  exact this.1
theorem bts_toList (s : ByteArray) : s.toList = bts s := ByteArray.toList_eq s
theorem beq_bts (s t : ByteArray) : (s.toList == t.toList) = decide (bts s = bts t) := by rw [bts_toList, bts_toList, Bool.eq_iff_iff]; simp
theorem OwnS.cut {w : World} {B g cap : Nat} {a : List ByteArray} (h : OwnS w B (.slice (some ⟨g, 0, none⟩) a.length cap) a) (k : Nat) (hk : k ≤ a.length) : OwnS w B (.slice (some ⟨g, 0, none⟩) k cap) (a.take k) := by
  obtain ⟨hl, h | ⟨g', cap', cur, hv, hb, hg, hnc, hcm, hcs, ht⟩⟩ := h
  · cases h.1
  cases hv
  have e : (a.take k).length = k := by simp; omega
  unfold OwnS
  rw [e]
  refine ⟨by simp [strCells]; omega, .inr ⟨g, cap, cur, rfl, hb, hg, by omega, hcm, hcs, ?_⟩⟩
  rw [show strCells (a.take k) = (strCells a).take k by simp [strCells, List.map_take], ← ht, List.take_take, Nat.min_eq_left (by omega), Nat.mul_one]
theorem OwnS.zeroed {B g cap : Nat} (x : ByteArray) : ∀ (m o : Nat) (w : World) (a : List ByteArray), OwnS w B (.slice (some ⟨g, 0, none⟩) a.length cap) a →
    ∃ a' : List ByteArray, a'.length = a.length ∧ a'.take o = a.take o ∧ OwnS (w.setCells g o (List.replicate m (.string x))) B (.slice (some ⟨g, 0, none⟩) a.length cap) a' ∧ w.grownBy (w.setCells g o (List.replicate m (.string x))) (some g)
  | 0, o, w, a, h => ⟨a, rfl, rfl, h, World.grownBy.refl _ _⟩
  | m + 1, o, w, a, h => by
    have h1 := h.store o x
    obtain ⟨a', h2, h3, h4, h5⟩ := OwnS.zeroed x m (o + 1) _ (a.set o x) (by rw [List.length_set]; exact h1.1)
    rw [List.length_set] at h2 h4
    refine ⟨a', h2, ?_, h4, grown_trans h1.2 h5⟩
    have h6 := congrArg (List.take o) h3
    rw [List.take_take, List.take_take, Nat.min_eq_left (by omega)] at h6
    rw [h6]
    apply List.ext_getElem?
    intro i
    by_cases hi : i < o
    · simp [hi, Nat.ne_of_gt hi]
    · simp [List.getElem?_take, hi]
theorem idxOf_case {α : Type} (pr : α → Bool) : ∀ (l : List α) (k : Nat), (idxOf pr l k = -1 ∧ ∀ x ∈ l, pr x = false) ∨ ∃ (j : Nat) (h : j < l.length), idxOf pr l k = ((k + j : Nat) : Int) ∧ pr l[j] = true ∧ ∀ x ∈ l.take j, pr x = false
  | [], k => .inl ⟨rfl, by simp⟩
  | x :: l, k => by
    cases hx : pr x
    · rcases idxOf_case pr l (k + 1) with ⟨h1, h2⟩ | ⟨j, hj, h1, h2, h3⟩
      · exact .inl ⟨by simp [idxOf, hx, h1], by intro y hy; rcases List.mem_cons.1 hy with rfl | hy; exact hx; exact h2 y hy⟩
      · refine .inr ⟨j + 1, by simp; omega, by simp [idxOf, hx, h1]; omega, by simpa using h2, ?_⟩
        intro y hy
        rw [List.take_succ_cons] at hy
        rcases List.mem_cons.1 hy with rfl | hy
        · exact hx
        · exact h3 y hy
    · exact .inr ⟨0, by simp, by simp [idxOf, hx], by simpa using hx, by simp⟩
/-- what DeleteFunc keeps of the first k -/
def kept (pr : ByteArray → Bool) (a : List ByteArray) (k : Nat) : List ByteArray := (a.take k).filter fun x => !pr x
theorem kept_succ (pr : ByteArray → Bool) (a : List ByteArray) (k : Nat) (h : k < a.length) : kept pr a (k + 1) = kept pr a k ++ if pr a[k] then [] else [a[k]] := by
  unfold kept
  rw [List.take_succ_eq_append_getElem h, List.filter_append]
  cases h2 : pr a[k] <;> simp [h2]
theorem kept_le (pr : ByteArray → Bool) (a : List ByteArray) (k : Nat) : (kept pr a k).length ≤ k := by
  unfold kept
  exact Nat.le_trans (List.length_filter_le _ _) (by simp; omega)
theorem kept_all (pr : ByteArray → Bool) (a : List ByteArray) : kept pr a a.length = a.filter fun x => !pr x := by unfold kept; rw [List.take_length]
theorem kept_start (pr : ByteArray → Bool) (a : List ByteArray) (j : Nat) (h : ∀ x ∈ a.take j, pr x = false) : kept pr a j = a.take j := by
  unfold kept
  exact List.filter_eq_self.2 fun x hx => by simp [h x hx]
/-- the row behind k rounds -/
def delRow (pr : ByteArray → Bool) (a : List ByteArray) (k : Nat) : List ByteArray := kept pr a k ++ a.drop (kept pr a k).length
theorem delRow_length (pr : ByteArray → Bool) (a : List ByteArray) (k : Nat) (h : k ≤ a.length) : (delRow pr a k).length = a.length := by
  have := kept_le pr a k
  simp [delRow]; omega
theorem delRow_get (pr : ByteArray → Bool) (a : List ByteArray) (k : Nat) (h : k < a.length) : (delRow pr a k)[k]? = some a[k] := by
  have := kept_le pr a k
  unfold delRow
  rw [List.getElem?_append_right this, List.getElem?_drop, show (kept pr a k).length + (k - (kept pr a k).length) = k by omega, List.getElem?_eq_getElem h]
theorem delRow_set (pr : ByteArray → Bool) (a : List ByteArray) (k : Nat) (h : k < a.length) (hp : pr a[k] = false) : (delRow pr a k).set (kept pr a k).length a[k] = delRow pr a (k + 1) := by
  have h1 := kept_le pr a k
  have h2 := kept_succ pr a k h
  rw [hp] at h2
  unfold delRow
  rw [h2]
  simp only [Bool.false_eq_true, if_false, List.length_append, List.length_cons, List.length_nil]
  rw [List.set_append_right _ _ (Nat.le_refl _), Nat.sub_self, List.append_assoc]
  rw [List.drop_eq_getElem_cons (show (kept pr a k).length < a.length by omega)]
  simp only [List.set_cons_zero, List.cons_append, List.nil_append]
theorem delRow_skip (pr : ByteArray → Bool) (a : List ByteArray) (k : Nat) (h : k < a.length) (hp : pr a[k] = true) : delRow pr a (k + 1) = delRow pr a k ∧ kept pr a (k + 1) = kept pr a k := by
  have h2 := kept_succ pr a k h
  rw [hp] at h2
  simp only [if_true, List.append_nil] at h2
  exact ⟨by unfold delRow; rw [h2], h2⟩
theorem OwnS.cellAt {w : World} {B g cap : Nat} {a : List ByteArray} (h : OwnS w B (.slice (some ⟨g, 0, none⟩) a.length cap) a) {i : Nat} {x : ByteArray} (hx : a[i]? = some x) : w.cell? ⟨g, i, none⟩ = some (.string x) ∧ w.frozen? ⟨g, i, none⟩ = false := by
  have hi : i < a.length := by
    rcases Nat.lt_or_ge i a.length with h | h
    · exact h
    · rw [List.getElem?_eq_none h] at hx; cases hx
  exact ⟨by rw [World.ownsRow.cellAt h i (by omega)]; simp [strCells, hx], World.ownsRow.frozenAt h i⟩
--
set_option maxRecDepth 20000 in
set_option maxHeartbeats 2000000 in
theorem deleteFuncSK (pr : ByteArray → Bool) (f : FuncId) (cp : Array Value) (a : List ByteArray) (g cap : Nat) (w0 w : World) (hown : OwnS w w0.heap.size (.slice (some ⟨g, 0, none⟩) a.length cap) a) (kw0 : Keeps w0 w) (hl : a.length ≤ 1000000000) (hcf : Enters f)
    (hf : ∀ x w1, x ∈ a → Keeps w0 w1 → Calls Tryz.prog f (#[.string x] ++ cp) w1 fun e w2 => e = .returned (.bool (pr x)) ∧ Keeps w1 w2) :
    Calls Tryz.prog 50 #[.slice (some ⟨g, 0, none⟩) a.length cap, .func (.func f) #[] cp] w fun e w' => ∃ v', e = .returned v' ∧ OwnS w' w0.heap.size v' (a.filter fun x => !pr x) ∧ Keeps w0 w' := by
  have hI := indexFuncS pr f cp a _ w (hown.strs (by omega)) hcf (fun x w1 hx k => hf x w1 hx (kw0.trans k))
  obtain ⟨_, _, hge, hncap, hcm, _⟩ : ∃ q c, w0.heap.size ≤ g ∧ a.length ≤ cap ∧ cap ≤ maxLen ∧ q = c := by
    obtain ⟨p, c, e, h1, h2, _⟩ := At.of_own hown
    cases e
    exact ⟨0, 0, (OwnS.len hown g rfl).1, h1, h2, rfl⟩
  unfold maxLen at hcm
  have HI := hid hI; clear hI
  have HF := hid hf; clear hf
  have HO := hid hown; clear hown
  have HK := hid kw0; clear kw0
  have hcf' : ∀ args w, (callFunc f args).run Tryz.prog w = .ok (.enter f args) w := hcf
  clear hcf
  rcases idxOf_case pr a 0 with ⟨hi, hall⟩ | ⟨j0, hj0, hi, hp0, hbef⟩
  · rw [hi] at HI
    have hfil : (a.filter fun x => !pr x) = a := List.filter_eq_self.2 fun x hx => by simp [hall x hx]
    rw [hfil]
    clear hall hfil hi
    go_enter Tryz.func50, Tryz.ntmps50
    go_wp2_with fail
    refine HI.out.mono ?_; rintro e w1 ⟨rfl, k1⟩
    go_wp2_with fail
    go_ret
    exact ⟨_, rfl, HO.out.keeps k1, HK.out.trans k1⟩
  · rw [show ((0 + j0 : Nat) : Int) = (j0 : Int) by omega] at hi
    rw [hi] at HI
    have hs1 : kept pr a (j0 + 1) = a.take j0 := by
      rw [kept_succ pr a j0 hj0, hp0, kept_start pr a j0 hbef]; simp
    have hs2 : delRow pr a (j0 + 1) = a := by
      unfold delRow; rw [hs1]; simp [Nat.min_eq_left (Nat.le_of_lt hj0)]
    have hs3 : (kept pr a (j0 + 1)).length = j0 := by rw [hs1]; simp; omega
    have HS := hid (And.intro hs2 hs3); clear hs1 hs2 hs3 hbef hp0 hi
    have hneq : ((j0 : Int) == -1) = false := by simp
    go_enter Tryz.func50, Tryz.ntmps50
    go_wp2_with fail
    refine HI.out.mono ?_; rintro e w1 ⟨rfl, k1⟩
    go_wp2_with fail
    go_loopw [5, 6] (fun iv jv wr => ∃ k n : Nat, k ≤ a.length ∧ n < k ∧ n = (kept pr a k).length ∧ iv = .int .i64 n ∧ jv = .int .i64 k ∧ OwnS wr w0.heap.size (.slice (some ⟨g, 0, none⟩) a.length cap) (delRow pr a k) ∧ Keeps w0 wr) (fun _ jv _ => a.length - (intOf jv).toNat)
    case atStart => exact ⟨j0 + 1, j0, by omega, by omega, HS.out.2.symm, rfl, by go_num, by rw [HS.out.1]; exact HO.out.keeps k1, HK.out.trans k1⟩
    case round =>
      obtain ⟨k, n, hk, hnk, hn, rfl, rfl, hrow, kw⟩ := hrel
      have HN := hid hn; clear hn
      by_cases hlt : k < a.length
      · have hlt' : (k : Int) < a.length := by omega
        have hc := OwnS.cellAt (a := delRow pr a k) (by rw [delRow_length pr a k hk]; exact hrow) (delRow_get pr a k hlt)
        obtain ⟨xo, hxo⟩ : ∃ xo, (delRow pr a k)[n]? = some xo := ⟨_, List.getElem?_eq_getElem (by rw [delRow_length pr a k hk]; omega)⟩
        have hd := OwnS.cellAt (a := delRow pr a k) (by rw [delRow_length pr a k hk]; exact hrow) hxo
        obtain ⟨hc1, hc2⟩ := hc
        obtain ⟨hd1, hd2⟩ := hd
        have HR := hid hrow; clear hrow
        have hq := hid (delRow_set pr a k hlt)
        have hq2 := hid (delRow_skip pr a k hlt)
        have hq3 := hid (kept_succ pr a k hlt)
        cases hp : pr a[k]
        all_goals
          have Hp := hid hp; clear hp
          go_wp2_with ((with_reducible refine (HF.out a[k] wr (List.getElem_mem hlt) kw).mono ?_); rintro e w2 ⟨rfl, k2⟩; replace hd1 := k2.cell hd1; replace hd2 := (k2.both.2 g n (by first | exact (OwnS.len HR.out g rfl).2 | omega)).trans hd2; replace HR := hid (HR.out.keeps k2); replace kw := kw.trans k2; rw [Hp.out])
        · go_roundw
          case rel =>
            refine ⟨k + 1, n + 1, by omega, by omega, ?_, by go_num, by go_num, ?_, ?_⟩
            · rw [hq3.out, Hp.out, HN.out]; simp
            · have := OwnS.store (a := delRow pr a k) (by rw [delRow_length pr a k hk]; exact HR.out) n a[k]
              rw [delRow_length pr a k hk] at this
              have h2 := this.1
              rw [HN.out, hq.out Hp.out, ← HN.out] at h2
              exact h2
            · have := OwnS.store (a := delRow pr a k) (by rw [delRow_length pr a k hk]; exact HR.out) n a[k]
              exact kw.grown this.2 (by rintro _ ⟨⟩; exact hge)
          case measure => simp [intOf]; omega
        · go_roundw
          case rel => exact ⟨k + 1, n, by omega, by omega, by rw [(hq2.out Hp.out).2]; exact HN.out, rfl, by go_num, by rw [(hq2.out Hp.out).1]; exact HR.out, kw⟩
          case measure => simp [intOf]; omega
      · obtain rfl : k = a.length := by omega
        have hlt' : ¬ (a.length : Int) < a.length := by omega
        have hz := OwnS.zeroed (a := delRow pr a a.length) ⟨#[]⟩ (a.length - n) n wr (by rw [delRow_length pr a _ hk]; exact hrow)
        have hcell : ∀ j, j < a.length → ∃ x, (delRow pr a a.length)[j]? = some x := fun j hj => ⟨_, List.getElem?_eq_getElem (by rw [delRow_length pr a _ hk]; exact hj)⟩
        have hcl : ∀ ty, (Builtin.clear_ #[22] ty #[.slice (some ⟨g, n, none⟩) (a.length - n) (cap - n)]).run Tryz.prog wr = .ok (.tuple #[]) (wr.setCells g n (List.replicate (a.length - n) (.string ⟨#[]⟩))) :=
          fun ty => Lib.run_clear_slice wr _ _ ty _ Tryz.underlying22 (fun _ => Tryz.zeroValue9 _) rfl rfl g n _ _ (by omega)
            (fun j hj => by
              obtain ⟨x, hx⟩ := hcell (n + j) (by omega)
              rw [(OwnS.cellAt (a := delRow pr a a.length) (by rw [delRow_length pr a _ hk]; exact hrow) hx).1]; rfl)
            (fun j hj => by
              obtain ⟨x, hx⟩ := hcell (n + j) (by omega)
              rw [(OwnS.cellAt (a := delRow pr a a.length) (by rw [delRow_length pr a _ hk]; exact hrow) hx).2])
        have HZ := hid hz; clear hz hcell hrow
        go_wp2
        go_ret
        obtain ⟨a', h1, h2, h3, h4⟩ := HZ.out
        rw [delRow_length pr a _ hk] at h1 h3
        refine ⟨_, rfl, ?_, ?_⟩
        · have hfin : a'.take n = a.filter fun x => !pr x := by
            rw [h2, ← kept_all, HN.out]
            unfold delRow
            rw [List.take_left]
          rw [← hfin]
          have := OwnS.cut (a := a') (by rw [h1]; exact h3) n (by omega)
          simpa using this
        · have := kw.grown h4 (by rintro _ ⟨⟩; exact hge)
          simpa using this
theorem deleteFuncS (pr : ByteArray → Bool) (f : FuncId) (cp : Array Value) (a : List ByteArray) (g cap : Nat) (w0 w : World) (hown : OwnS w w0.heap.size (.slice (some ⟨g, 0, none⟩) a.length cap) a) (kw0 : Keeps w0 w) (hl : a.length ≤ 1000000000) (hcf : Enters f)
    (hf : ∀ x w1, Keeps w0 w1 → Calls Tryz.prog f (#[.string x] ++ cp) w1 fun e w2 => e = .returned (.bool (pr x)) ∧ w1 = w2) :
    Calls Tryz.prog 50 #[.slice (some ⟨g, 0, none⟩) a.length cap, .func (.func f) #[] cp] w fun e w' => ∃ v', e = .returned v' ∧ OwnS w' w0.heap.size v' (a.filter fun x => !pr x) ∧ Keeps w0 w' :=
  deleteFuncSK pr f cp a g cap w0 w hown kw0 hl hcf (fun x w1 _ k => (hf x w1 k).mono (by rintro e w2 ⟨rfl, rfl⟩; exact ⟨rfl, Keeps.refl _⟩))
end Go.Proofs.YtijdcpomalkkhaaGreat
/- Walks: masks and posets. -/
namespace Go.Proofs.YtijdcpomalkkhaaGreat
open Go.RowKit

--
theorem wrap_pow : ∀ k : Nat, k ≤ 62 → wrap64 (2 ^ k) = 2 ^ k := by
  intro k hk
  have : ∀ j : Fin 63, wrap64 (2 ^ (j : Nat)) = 2 ^ (j : Nat) := by decide +kernel
  exact this ⟨k, by omega⟩
theorem l01One_any (i : Int) (w : World) (h0 : 0 ≤ i) (h1 : i ≤ 62) : Calls Tryz.prog 101 #[.int .i64 i] w fun e w' => e = .returned (.int .i64 (2 ^ i.toNat)) ∧ w = w' := by
  go_enter Tryz.func101, Tryz.ntmps101
  go_wp2
  go_ret
  refine ⟨ret_int ?_, rfl⟩
  exact wrap_pow _ (by omega)
/-- fresh numbers come back -/
def RetI (w : World) (a : List Int) (e : Ending) (w' : World) : Prop := ∃ v, e = .returned v ∧ OwnI w' w.heap.size v a ∧ Keeps w w'
--
theorem l01Own_any (a : List Int) (v : Value) (w : World) (hv : Ints w v a) : Calls Tryz.prog 45 #[v] w (RetI w a) := by
  have hlen : a.length ≤ 2147483648 := by obtain ⟨_, _, _, _, _, _, h⟩ := hv; exact h
  have h1 := OwnI.empty w
  have k1 := (Keeps.refl w).alloc (.cells #[] 2)
  have hv1 := hv.keeps k1
  go_enter Tryz.func45, Tryz.ntmps45
  go_wp2_with (at_builtin; refine appI rfl _ _ rfl w.heap.size _ [] rfl h1 _ a rfl hv1 (by simp) (by simpa using hlen) ?_; intro v1 w1 hv1 hg1 hr1; have k2 : Keeps w w1 := k1.grown hg1 hr1)
  go_ret
  exact ⟨_, rfl, by simpa using hv1, k2⟩
end Go.Proofs.YtijdcpomalkkhaaGreat
