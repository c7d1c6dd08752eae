/- What the contract of a reader says: a box that holds a text, a place in it and a mark. -/
import Derived.Test.YtgnlfceloiilbaaGreatGP1
import Derived.Test.YtgnlfceloiilbaaGreatGSR
import Derived.Lib.AppendZeros
namespace Go.Proofs.YtgnlfceloiilbaaGreat
open Go.RowKit

/-- a reader stands at a place of a text -/
structure RdAt (w : World) (r : Nat) (s : ByteArray) (i : Nat) (bad : Bool) : Prop where
  c0 : w.cell? ⟨r, 0, none⟩ = some (.string s)
  c1 : w.cell? ⟨r, 1, none⟩ = some (.int .i64 i)
  c2 : w.cell? ⟨r, 2, none⟩ = some (.bool bad)
  f1 : w.frozen? ⟨r, 1, none⟩ = false
  f2 : w.frozen? ⟨r, 2, none⟩ = false
  le : i ≤ s.size
  sz : s.size ≤ 2147483648
theorem RdAt.lt {w : World} {r : Nat} {s : ByteArray} {i : Nat} {bad : Bool} (h : RdAt w r s i bad) : r < w.heap.size := World.block_lt_of_cell? _ _ h.c0
theorem RdAt.keeps {w w' : World} {r : Nat} {s : ByteArray} {i : Nat} {bad : Bool} (h : RdAt w r s i bad) (k : Keeps w w') : RdAt w' r s i bad := by
  have hl := h.lt
  obtain ⟨kc, kf⟩ := k.both
  exact ⟨k.cell h.c0, k.cell h.c1, k.cell h.c2, (kf _ _ hl).trans h.f1, (kf _ _ hl).trans h.f2, h.le, h.sz⟩
/-- what may follow a text that is read at a level -/
def stops (l : Nat) (r : List UInt8) : Prop := (l ≤ 2 → r.head? ≠ some 38) ∧ (l ≤ 1 → r.head? ≠ some 124) ∧ (l = 0 → r.head? ≠ some 62)
theorem stops.up {l m : Nat} {r : List UInt8} (h : stops l r) (k : l ≤ m) : stops m r := ⟨fun e => h.1 (by omega), fun e => h.2.1 (by omega), fun e => h.2.2 (by omega)⟩
theorem stops3 (r : List UInt8) : stops 3 r := ⟨fun e => by omega, fun e => by omega, fun e => by omega⟩
/-- a formula has been read up to a place -/
def RetRd (w : World) (r : Nat) (s : ByteArray) (j : Nat) (a : List Nd) (e : Ending) (w' : World) : Prop :=
  ∃ v, e = .returned v ∧ OwnN w' w.heap.size v a ∧ RdAt w' r s j false ∧ w.grownBy w' (some r)
/-- a function reads a formula where its text at a level begins -/
def Reads (f : FuncId) (l : Nat) (t : Fm) (X : List UInt8) : Prop :=
  ∀ (w : World) (r : Nat) (s : ByteArray) (i : Nat) (rest : List UInt8), RdAt w r s i false → (bts s).drop i = X ++ rest → stops l rest → t.enc.length ≤ 100000000 →
    Calls Tryz.prog f #[.pointer (some ⟨r, 0, none⟩)] w (RetRd w r s (i + X.length) t.enc)
/-- the next byte of a text -/
theorem bts_head {s : ByteArray} {i : Nat} {b : UInt8} {l : List UInt8} (h : (bts s).drop i = b :: l) : ∃ hi : i < s.size, s[i] = b ∧ (bts s).drop (i + 1) = l := by
  have hl : i < (bts s).length := by
    rcases Nat.lt_or_ge i (bts s).length with h' | h'
    · exact h'
    · rw [List.drop_eq_nil_of_le h'] at h; cases h
  have hs : (bts s).length = s.size := by show s.data.toList.length = s.data.size; simp
  rw [List.drop_eq_getElem_cons hl] at h
  injection h with h1 h2
  exact ⟨by omega, by rw [← h1]; simp [bts]; rfl, h2⟩
theorem bts_end {s : ByteArray} {i : Nat} (hi : i ≤ s.size) (h : (bts s).drop i = []) : i = s.size := by
  have hs : (bts s).length = s.size := by show s.data.toList.length = s.data.size; simp
  have := List.drop_eq_nil_iff.1 h
  omega
theorem drop_more {s : ByteArray} {i : Nat} {X Y : List UInt8} (h : (bts s).drop i = X ++ Y) : (bts s).drop (i + X.length) = Y := by
  rw [← List.drop_drop, h, List.drop_left]
theorem fold_and_len (ys : List Fm) : ∀ a : Fm, a.enc.length ≤ (ys.foldl Fm.and a).enc.length := by
  induction ys with
  | nil => intro a; exact Nat.le_refl _
  | cons y ys ih => intro a; have := ih (Fm.and a y); simp only [List.foldl_cons, Fm.enc, List.length_cons, List.length_append] at *; omega
theorem fold_or_len (ys : List Fm) : ∀ a : Fm, a.enc.length ≤ (ys.foldl Fm.or a).enc.length := by
  induction ys with
  | nil => intro a; exact Nat.le_refl _
  | cons y ys ih => intro a; have := ih (Fm.or a y); simp only [List.foldl_cons, Fm.enc, List.length_cons, List.length_append] at *; omega
theorem OwnN.grown {w w' : World} {B r : Nat} {v : Value} {x : List Nd} (h : OwnN w B v x) (k : w.grownBy w' (some r)) (hr : r < B) : OwnN w' B v x := by
  refine ⟨h.1, ?_⟩
  rcases h.2 with hn | ⟨g, cap, cur, rfl, hb, hgg, rest⟩
  · exact .inl hn
  · exact .inr ⟨g, cap, cur, rfl, hb, (k.block g (Array.getElem?_eq_some_iff.1 hgg).1 (fun e => by cases e; omega)).trans hgg, rest⟩
theorem grown_keeps {w w1 w2 : World} {row : Option Nat} (h : w.grownBy w1 row) (k : Keeps w1 w2) : w.grownBy w2 row :=
  ⟨k.os.trans h.os, k.tape.trans h.tape, k.output.trans h.output, Nat.le_trans h.size k.size, fun i hi hr => (k.block (Nat.lt_of_lt_of_le hi h.size)).trans (h.block i hi hr)⟩
end Go.Proofs.YtgnlfceloiilbaaGreat
/- Rows of strings that grow; lists of texts of formulas. -/
namespace Go.Proofs.YtgnlfceloiilbaaGreat
open Go.RowKit
/-- texts of formulas -/
def Txts (ss : List ByteArray) (G : List Fm) : Prop := ss.map bts = G.map Fm.body
theorem Txts.length {ss : List ByteArray} {G : List Fm} (h : Txts ss G) : ss.length = G.length := by
  have := congrArg List.length h
  simpa using this
theorem Txts.append {ss tt : List ByteArray} {G H : List Fm} (h : Txts ss G) (k : Txts tt H) : Txts (ss ++ tt) (G ++ H) := by
  unfold Txts at *; rw [List.map_append, List.map_append, h, k]
theorem Txts.get {ss : List ByteArray} {G : List Fm} (h : Txts ss G) (i : Nat) (h1 : i < ss.length) (h2 : i < G.length) : bts ss[i] = G[i].body := by
  have e : (ss.map bts)[i]? = (G.map Fm.body)[i]? := by rw [h]
  simpa [h1, h2] using e
end Go.Proofs.YtgnlfceloiilbaaGreat
/- Walks: the program's readers of formulas, and the library's IndexFunc and ContainsFunc at two types. -/
namespace Go.Proofs.YtgnlfceloiilbaaGreat
open Go.RowKit

--
set_option maxHeartbeats 400000 in
theorem indexFuncN (pr : Nd → Bool) (f : FuncId) (cp : Array Value) (a : List Nd) (v : Value) (w : World) (hv : Nds w v a) (hcf : Enters f)
    (hf : ∀ x w1, x ∈ a → Keeps w w1 → Calls Tryz.prog f (#[.agg #[.int .i64 x.k, .int .i64 x.s]] ++ cp) w1 fun e w2 => e = .returned (.bool (pr x)) ∧ Keeps w1 w2) :
    Calls Tryz.prog 352 #[v, .func (.func f) #[] cp] w fun e w' => e = .returned (.int .i64 (idxOf pr a 0)) ∧ Keeps w w' := by
  obtain ⟨p, cap, rfl, hle, hmx, hr, hlen⟩ := hv
  unfold maxLen at hmx
  have HF := hid hf; clear hf
  have hcf' : ∀ args w, (callFunc f args).run Tryz.prog w = .ok (.enter f args) w := hcf
  clear hcf
  go_enter Tryz.func352, Tryz.ntmps352
  go_wp2
  go_loopw [4, 8] (fun r i' wr => ∃ k : Nat, k ≤ a.length ∧ idxOf pr a 0 = idxOf pr (a.drop k) k ∧ Keeps w wr ∧ i' = .int .i64 k ∧ r = .int .i64 0) (fun _ i _ => a.length - (intOf i).toNat)
  case atStart => exact ⟨0, by omega, by simp, Keeps.refl w, rfl, rfl⟩
  case round =>
    obtain ⟨k, hk, hs, kw, rfl, rfl⟩ := hrel
    have Hs := hid hs; clear hs
    by_cases hlt : k < a.length
    · obtain ⟨b, off, rfl, h1, h2⟩ := (hr.keeps kw).nd k hlt
      have hd := hid (idxOf_drop pr a k hlt)
      clear hr
      cases hp : pr a[k]
      all_goals
        have Hp := hid hp; clear hp
        go_wp2_with ((with_reducible refine (HF.out a[k] wr (List.getElem_mem hlt) kw).mono ?_); rintro e w2 ⟨rfl, k2⟩; rw [Hp.out])
      · go_roundw
        case rel => exact ⟨k + 1, by omega, by rw [Hs.out, hd.out, Hp.out]; rfl, kw.trans k2, by go_num, rfl⟩
        case measure => simp [intOf]; omega
      · go_ret
        exact ⟨ret_int (by rw [Hs.out, hd.out, Hp.out]; rfl), kw.trans k2⟩
    · go_wp2
      go_ret
      exact ⟨ret_int (by rw [Hs.out, idxOf_end _ _ _ (by omega)]), kw⟩
theorem containsFuncN (pr : Nd → Bool) (f : FuncId) (cp : Array Value) (a : List Nd) (v : Value) (w : World) (hv : Nds w v a) (hcf : Enters f)
    (hf : ∀ x w1, x ∈ a → Keeps w w1 → Calls Tryz.prog f (#[.agg #[.int .i64 x.k, .int .i64 x.s]] ++ cp) w1 fun e w2 => e = .returned (.bool (pr x)) ∧ Keeps w1 w2) :
    Calls Tryz.prog 331 #[v, .func (.func f) #[] cp] w fun e w' => e = .returned (.bool (a.any pr)) ∧ Keeps w w' := by
  have H := hid (indexFuncN pr f cp a v w hv hcf hf)
  clear hv hf hcf
  have he := hid (idxOf_any pr a 0)
  go_enter Tryz.func331, Tryz.ntmps331
  go_wp2_with (go_at_call 352; refine H.out.mono ?_; rintro e w2 ⟨rfl, k2⟩)
  go_ret
  exact ⟨ret_bool he.out, k2⟩
--
theorem isVariable_any (x : Int) (w : World) : Calls Tryz.prog 353 #[.int .i64 x] w fun e w' => e = .returned (.bool (inR x 0 5)) ∧ w = w' := by
  go_enter Tryz.func353, Tryz.ntmps353
  go_wp2_with (go_at_call 199; refine (inRange_any _ _ _ _).mono ?_; rintro e w' ⟨rfl, rfl⟩)
  go_ret
  exact ⟨rfl, rfl⟩
--
set_option maxHeartbeats 400000 in
theorem isNode_any (x : Nd) (w : World) : Calls Tryz.prog 333 #[.agg #[.int .i64 x.k, .int .i64 x.s]] w fun e w' => e = .returned (.bool (okNd x)) ∧ Keeps w w' := by
  by_cases h : x.k = 0
  · have h' : (x.k == 0) = true := by simp [h]
    have H := hid h; clear h
    go_enter Tryz.func333, Tryz.ntmps333
    go_wp2_with (go_at_call 353; refine (isVariable_any _ _).mono ?_; rintro e w' ⟨rfl, rfl⟩)
    go_ret
    exact ⟨ret_bool (by simp [okNd, H.out, inR]), (Keeps.refl w).alloc _⟩
  · have h' : (x.k == 0) = false := by simp [h]
    have H := hid h; clear h
    cases hi : inR x.k 1 6
    all_goals
      have Hi := hid hi; clear hi
      go_enter Tryz.func333, Tryz.ntmps333
      go_wp2_with (go_at_call 199; refine (inRange_any _ _ _ _).mono ?_; rintro e w' ⟨rfl, rfl⟩; rw [Hi.out])
      go_ret
      refine ⟨ret_bool ?_, (Keeps.refl w).alloc _⟩
      have := Hi.out
      simp only [inR, decide_eq_true_eq, decide_eq_false_iff_not] at this
      unfold okNd
      rw [if_neg H.out]
      by_cases h0 : x.s = 0 <;> simp [h0] <;> omega
--
theorem isFormula_1_any (x : Nd) (w : World) : Calls Tryz.prog 332 #[.agg #[.int .i64 x.k, .int .i64 x.s]] w fun e w' => e = .returned (.bool (!okNd x)) ∧ Keeps w w' := by
  go_enter Tryz.func332, Tryz.ntmps332
  go_wp2_with (go_at_call 333; refine (isNode_any x _).mono ?_; rintro e w' ⟨rfl, k1⟩)
  go_ret
  exact ⟨rfl, ((Keeps.refl w).alloc _).trans k1⟩
--
theorem enters_isFormula_1 : Enters 332 := fun _ _ => by kernel_rfl
theorem isFm_split (a : List Nd) : isFm a = (decide (1 ≤ a.length) && (decide (a.length ≤ 40) && (!(a.any fun x => !okNd x) && (skipInt 1 a 0 == (a.length : Int))))) := by
  unfold isFm isTree
  have : (!(a.any fun x => !okNd x)) = a.all okNd := by
    induction a with
    | nil => rfl
    | cons x l ih => simp [List.all_cons, List.any_cons, ← ih]
  rw [this]
  cases a.all okNd <;> simp
  by_cases h : 0 < a.length <;> simp [h]
  all_goals omega
set_option maxHeartbeats 400000 in
theorem isFormula_any (a : List Nd) (v : Value) (w : World) (hv : Nds w v a) :
    Calls Tryz.prog 281 #[v] w fun e w' => e = .returned (.bool (isFm a)) ∧ Keeps w w' := by
  have hsp := hid (isFm_split a)
  have hv0 := hv
  obtain ⟨p, cap, rfl, hle, hmx, hr, hlen⟩ := hv
  unfold maxLen at hmx
  clear hr
  by_cases h1 : 1 ≤ a.length
  · by_cases h40 : a.length ≤ 40
    · cases ho : a.any fun x => !okNd x
      all_goals
        have Ho := hid ho; clear ho
        go_enter Tryz.func281, Tryz.ntmps281
        go_wp2_with (first
          | (go_at_call 331; refine (containsFuncN (fun x => !okNd x) _ #[] a _ _ hv0 enters_isFormula_1 (fun x w1 _ _ => isFormula_1_any x w1)).mono ?_; rintro e w1 ⟨rfl, k1⟩; rw [Ho.out])
          | (go_at_call 262; refine (partEnd_any a _ _ _ (hv0.keeps k1) (by omega) (by omega)).mono ?_; rintro e w' ⟨rfl, rfl⟩))
        go_ret
        refine ⟨ret_bool ?_, k1⟩
        rw [hsp.out, Ho.out]
        simp [h1, h40]
    · go_enter Tryz.func281, Tryz.ntmps281
      go_wp2
      go_ret
      refine ⟨ret_bool ?_, Keeps.refl _⟩
      rw [hsp.out]; simp; omega
  · go_enter Tryz.func281, Tryz.ntmps281
    go_wp2
    go_ret
    refine ⟨ret_bool ?_, Keeps.refl _⟩
    rw [hsp.out]; simp; omega
def modalB (k : Int) : Bool := decide (k = 5 ∨ k = 6)
--
theorem isModal_any (x : Int) (w : World) : Calls Tryz.prog 145 #[.int .i64 x] w fun e w' => e = .returned (.bool (modalB x)) ∧ w = w' := by
  go_enter Tryz.func145, Tryz.ntmps145
  go_wp2
  all_goals go_ret
  all_goals exact ⟨ret_bool (by by_cases h5 : x = 5 <;> by_cases h6 : x = 6 <;> simp_all [modalB]), rfl⟩
end Go.Proofs.YtgnlfceloiilbaaGreat
/- Walks: Harrop and negative formulas on both sides; lists of formulas. -/
namespace Go.Proofs.YtgnlfceloiilbaaGreat
open Go.RowKit

--
set_option maxHeartbeats 400000 in
theorem part_any (a l : List Nd) (t : Fm) (r : List Nd) (v : Value) (i : Int) (w : World) (hv : Nds w v a) (ha : a = l ++ (t.enc ++ r)) (hi : i = l.length) :
    Calls Tryz.prog 185 #[v, .int .i64 i] w (RetS w t.enc) := by
  subst hi
  have hv0 := hv
  obtain ⟨p, cap, rfl, hle, hmx, hr, hlen⟩ := hv
  have hp := Fm.enc_pos t
  have hs : skipInt 1 a (l.length : Int).toNat = l.length + t.enc.length := by subst ha; exact skipInt_enc l t r
  have hl : l.length + t.enc.length ≤ a.length := by subst ha; simp
  obtain ⟨b, off, rfl⟩ := hr.ptrN (by omega)
  have hmx0 := hid hmx
  unfold maxLen at hmx
  have Ha := hid ha; clear ha
  have Hs := hid hs; clear hs
  have hc1 : ¬ l.length + t.enc.length = l.length := by omega
  go_enter Tryz.func185, Tryz.ntmps185
  go_wp2_with (go_at_call 262; refine (partEnd_any _ _ _ _ hv0 (by omega) (by omega)).mono ?_; rintro e w' ⟨rfl, rfl⟩; rw [Hs.out])
  go_ret
  have e := Ha.out
  rw [e] at hr
  exact ⟨_, rfl, Nds.sub (l := l) (m := t.enc) (r := r) hr (by omega) rfl (by omega) (by omega) (by have := hmx0.out; omega), rfl⟩
--
theorem first_any (a : List Nd) (x : Nd) (t : Fm) (r : List Nd) (v : Value) (w : World) (hv : Nds w v a) (ha : a = x :: (t.enc ++ r)) :
    Calls Tryz.prog 147 #[v] w (RetS w t.enc) := by
  go_enter Tryz.func147, Tryz.ntmps147
  go_wp2_with (go_at_call 185; refine (part_any a [x] t r _ _ _ hv ha rfl).mono ?_; rintro e w' ⟨v1, rfl, hv1, rfl⟩)
  go_ret
  exact ⟨_, rfl, hv1, rfl⟩
--
theorem second_any (a : List Nd) (x : Nd) (t u : Fm) (v : Value) (w : World) (hv : Nds w v a) (ha : a = x :: (t.enc ++ u.enc)) :
    Calls Tryz.prog 232 #[v] w (RetS w u.enc) := by
  have hs : skipInt 1 a (1 : Int).toNat = 1 + t.enc.length := by subst ha; exact skipInt_enc [x] t u.enc
  have ha2 : a = (x :: t.enc) ++ (u.enc ++ []) := by subst ha; simp
  have hl1 : (1 : Int) ≤ a.length := by subst ha; simp; omega
  have Ha := hid ha2; clear ha2 ha
  have Hs := hid hs; clear hs
  go_enter Tryz.func232, Tryz.ntmps232
  go_wp2_with (first
    | (go_at_call 262; refine (partEnd_any _ _ _ _ hv (by omega) hl1).mono ?_; rintro e w' ⟨rfl, rfl⟩; rw [Hs.out])
    | (go_at_call 185; refine (part_any a (x :: t.enc) u [] _ _ _ hv Ha.out (by simp; omega)).mono ?_; rintro e w' ⟨v1, rfl, hv1, rfl⟩))
  go_ret
  exact ⟨_, rfl, hv1, rfl⟩
--
theorem isFalsum_any (t : Fm) (v : Value) (w : World) (hv : Nds w v t.enc) :
    Calls Tryz.prog 313 #[v] w fun e w' => e = .returned (.bool t.isFls) ∧ w = w' := by
  obtain ⟨b, off, n, cap, rfl, h0, h1, h2, h3, hc, _⟩ := hv.root
  have hk := hid (Fm.kind_isFls t)
  go_enter Tryz.func313, Tryz.ntmps313
  go_wp2
  go_ret
  exact ⟨ret_bool hk.out, rfl⟩
--
set_option maxHeartbeats 400000 in
theorem isNegation_any (t : Fm) (v : Value) (w : World) (hv : Nds w v t.enc) :
    Calls Tryz.prog 312 #[v] w fun e w' => e = .returned (.bool t.isNeg) ∧ w = w' := by
  have hv0 := hv
  obtain ⟨b, off, n, cap, rfl, h0, h1, h2, h3, hc, _⟩ := hv.root
  clear hv
  cases t with
  | imp x y =>
    go_enter Tryz.func312, Tryz.ntmps312
    go_wp2_with (first
      | (go_at_call 232; refine (second_any _ _ x y _ _ hv0 rfl).mono ?_; rintro e w' ⟨v2, rfl, hv2, rfl⟩)
      | (go_at_call 313; refine (isFalsum_any y _ _ hv2).mono ?_; rintro e w' ⟨rfl, rfl⟩))
    go_ret
    exact ⟨rfl, rfl⟩
  | _ =>
    clear hv0
    simp only [Fm.kind] at hc
    go_enter Tryz.func312, Tryz.ntmps312
    go_wp2
    go_ret
    exact ⟨rfl, rfl⟩
end Go.Proofs.YtgnlfceloiilbaaGreat
/- Walks: the library's Grow and Concat at nodes; the program's joins. -/
namespace Go.Proofs.YtgnlfceloiilbaaGreat
open Go.RowKit

--
theorem zeroCells_size (n : Nat) (z : Array Value) : (Builtin.zeroCells z n).size = n * z.size := by simp [Builtin.zeroCells]
set_option maxRecDepth 20000 in
set_option maxHeartbeats 400000 in
theorem growN_any (n : Nat) (w : World) (hn : n ≤ 2147483648) :
    Calls Tryz.prog 272 #[.slice none 0 0, .int .i64 n] w (RetN w []) := by
  obtain ⟨i0, hi, hz0, hz1, hz2⟩ := info_parts infoN
  by_cases h0 : 0 < n
  · have hrun := Lib.run_append_nil_zeros (P := Tryz.prog) w 73 3 73 145 i0 _ .i64 .i64 Tryz.underlying73 Tryz.underlying3 hi hz0 n h0 (by rw [hz1]; decide) (by omega) (by rw [hz2]; omega)
    have hge := grownCap_ge w n 0 145
    have hle := grownCap_le_maxLen w n 0 145 (by unfold maxLen; omega)
    unfold maxLen at hle
    have hown : OwnN (w.drew.alloc (.cells (Builtin.zeroCells (Value.agg #[.int .i64 0, .int .i64 0]).cells n ++ Builtin.zeroCells (Value.agg #[.int .i64 0, .int .i64 0]).cells (grownCap w n 0 145 - n)) 145)) w.heap.size (.slice (some ⟨w.heap.size, 0, none⟩) 0 (grownCap w n 0 145)) [] := by
      refine World.ownsRow_made w.drew _ _ (Nat.le_refl _) (by unfold maxLen; omega) ?_
      rw [Array.size_append, zeroCells_size, zeroCells_size]
      simp [Value.cells]
      omega
    have hk := ((Keeps.refl w).drew).alloc (.cells (Builtin.zeroCells (Value.agg #[.int .i64 0, .int .i64 0]).cells n ++ Builtin.zeroCells (Value.agg #[.int .i64 0, .int .i64 0]).cells (grownCap w n 0 145 - n)) 145)
    generalize w.drew.alloc (.cells (Builtin.zeroCells (Value.agg #[.int .i64 0, .int .i64 0]).cells n ++ Builtin.zeroCells (Value.agg #[.int .i64 0, .int .i64 0]).cells (grownCap w n 0 145 - n)) 145) = w1 at hrun hown hk
    generalize grownCap w n 0 145 = c1 at *
    have HR := hid hrun; clear hrun
    clear hz0 hz1 hz2 hi
    go_enter Tryz.func272, Tryz.ntmps272
    go_wp2_with (at_builtin; refine Lib.wpList_append_run _ rfl _ _ _ _ rfl _ _ rfl rfl _ _ HR.out ?_)
    go_ret
    exact ⟨_, rfl, hown, hk⟩
  · obtain rfl : n = 0 := by omega
    go_enter Tryz.func272, Tryz.ntmps272
    go_wp2
    go_ret
    exact ⟨_, rfl, OwnN.nil _ _, Keeps.refl _⟩
--
/-- the first k lists in a row -/
def fl {α : Type} (l : List (List α)) (k : Nat) : List α := (l.take k).flatten
theorem fl_succ {α : Type} (l : List (List α)) (k : Nat) (h : k < l.length) : fl l (k + 1) = fl l k ++ l[k] := by
  unfold fl
  rw [List.take_succ_eq_append_getElem h, List.flatten_append]; simp
theorem fl_le {α : Type} (l : List (List α)) (k : Nat) : (fl l k).length ≤ (fl l l.length).length := by
  unfold fl
  rw [List.take_length]
  conv => rhs; rw [← List.take_append_drop k l]
  simp only [List.flatten_append, List.length_append]; omega
theorem fl_zero {α : Type} (l : List (List α)) : fl l 0 = [] := rfl
theorem fl_all {α : Type} (l : List (List α)) : fl l l.length = l.flatten := by unfold fl; rw [List.take_length]
set_option maxHeartbeats 1000000 in
theorem concatN_any (l : List (List Nd)) (v : Value) (w : World) (hv : NdsL w v l) (hl : (fl l l.length).length ≤ 2147483648) :
    Calls Tryz.prog 204 #[v] w (RetN w (fl l l.length)) := by
  have hv0 := hv
  obtain ⟨p, cap, rfl, hle, hmx, hlen, _⟩ := hv
  unfold maxLen at hmx
  go_enter Tryz.func204, Tryz.ntmps204
  go_wp2
  go_loop [3, 11] (fun s i' => ∃ k : Nat, k ≤ l.length ∧ i' = .int .i64 k ∧ s = .int .i64 (fl l k).length) (fun _ i => l.length - (intOf i).toNat)
  case atStart => exact ⟨0, by omega, rfl, rfl⟩
  case round =>
    obtain ⟨k, hk, rfl, rfl⟩ := hrel
    have hf := fl_le l k
    by_cases hlt : k < l.length
    · obtain ⟨b, off, u, rfl, h1, pu, capu, rfl, g1, g2, g3, g4⟩ := hv0.get k hlt
      have hft := fl_succ l k hlt
      have hf2 := fl_le l (k + 1)
      have hlen2 : (fl l (k + 1)).length = (fl l k).length + l[k].length := by rw [hft]; simp
      have hsum : (fl l k).length + l[k].length ≤ 2147483648 := by omega
      have HL := hid hlen2; clear hlen2 hft hf2
      clear hv0
      go_wp2
      go_round
      case rel => exact ⟨k + 1, by omega, by go_num, by rw [HL.out]; go_num⟩
      case measure => simp [intOf]; omega
    · obtain rfl : k = l.length := by omega
      clear hf hk hlt
      go_wp2_with (go_at_call 272; refine (growN_any _ _ hl).mono ?_; rintro e w1 ⟨v1, rfl, hv1, k1⟩)
      go_loopw [6, 27] (fun s i' wr => ∃ k : Nat, k ≤ l.length ∧ i' = .int .i64 k ∧ OwnN wr w.heap.size s (fl l k) ∧ Keeps w wr) (fun _ i _ => l.length - (intOf i).toNat)
      case atStart => exact ⟨0, by omega, rfl, hv1, k1⟩
      case round =>
        obtain ⟨k, hk, rfl, hown, kw⟩ := hrel
        by_cases hlt : k < l.length
        · obtain ⟨b, off, u, rfl, h1, hu⟩ := (hv0.keeps kw).get k hlt
          have hft := fl_succ l k hlt
          have hf2 := fl_le l (k + 1)
          have hsum : (fl l k).length + l[k].length ≤ 2147483648 := by
            have : (fl l (k + 1)).length = (fl l k).length + l[k].length := by rw [hft]; simp
            omega
          have HF := hid hft; clear hft hf2
          clear hv0
          have hsz := kw.size
          go_wp2_with (at_builtin; refine appN rfl _ _ rfl w.heap.size _ _ rfl hown _ _ rfl hu hsz hsum ?_; intro v2 w2 hv2 hg2 hr2; have k2 : Keeps w w2 := kw.grown hg2 hr2)
          go_roundw
          case rel => exact ⟨k + 1, by omega, by go_num, by rw [HF.out]; exact hv2, k2⟩
          case measure => simp [intOf]; omega
        · obtain rfl : k = l.length := by omega
          go_wp2
          go_ret
          exact ⟨_, rfl, hown, kw⟩
end Go.Proofs.YtgnlfceloiilbaaGreat
/- slices.Grow and slices.Concat at []string. -/
namespace Go.Proofs.YtgnlfceloiilbaaGreat
open Go.RowKit
/-- a fresh list of strings -/
def RetSt (w : World) (r : List ByteArray) (e : Ending) (w' : World) : Prop := ∃ v, e = .returned v ∧ OwnS w' w.heap.size v r ∧ Keeps w w'
def StrL (w : World) (v : Value) (xs : List (List ByteArray)) : Prop := SlC 1 (fun w f x => Strs w (f 0) x) w v xs
theorem StrL.keeps {w w' : World} {v : Value} {xs : List (List ByteArray)} (h : StrL w v xs) (k : Keeps w w') : StrL w' v xs :=
  SlC.keeps (R := fun w f x => Strs w (f 0) x) (fun _ _ _ _ k h => Strs.keeps h k) h k
theorem StrL.get {w : World} {p : Option Addr} {n cap : Nat} {xs : List (List ByteArray)} (h : StrL w (.slice p n cap) xs) (i : Nat) (hi : i < xs.length) :
    ∃ b off u, p = some ⟨b, off, none⟩ ∧ w.cell? ⟨b, off + i, none⟩ = some u ∧ Strs w u xs[i] := by
  obtain ⟨p', cap', hv, h1, h2, h3, h4⟩ := h
  cases hv
  obtain ⟨b, off, f, hp, hc, hr⟩ := h4 i hi
  exact ⟨b, off, f 0, hp, by simpa using hc 0 (by omega), hr⟩
theorem StrL.lit2 {w : World} {u u' : Value} {x x' : List ByteArray} (h : Strs w u x) (h' : Strs w u' x') : StrL (w.alloc (.cells #[u, u'] 22)) (.slice (some ⟨w.heap.size, 0, none⟩) 2 2) [x, x'] :=
  SlC.lit (R := fun w f x => Strs w (f 0) x) (fun _ _ _ _ k h => Strs.keeps h k) w _ [u, u'] [x, x'] rfl (by simp) (fun i h1 h2 => by
    simp at h1
    have hi : i = 0 ∨ i = 1 := by omega
    rcases hi with rfl | rfl
    · exact h
    · exact h')
--
set_option maxRecDepth 20000 in
set_option maxHeartbeats 400000 in
theorem growS_any (n : Nat) (w : World) (hn : n ≤ 2147483648) :
    Calls Tryz.prog 265 #[.slice none 0 0, .int .i64 n] w (RetSt w []) := by
  obtain ⟨i0, hi, hz0, hz1, hz2⟩ := info_parts infoS
  by_cases h0 : 0 < n
  · have hrun := Lib.run_append_nil_zeros (P := Tryz.prog) w 22 3 22 9 i0 _ .i64 .i64 Tryz.underlying22 Tryz.underlying3 hi hz0 n h0 (by rw [hz1]; decide) (by omega) (by rw [hz2]; omega)
    have hge := grownCap_ge w n 0 9
    have hle := grownCap_le_maxLen w n 0 9 (by unfold maxLen; omega)
    unfold maxLen at hle
    have hown : OwnS (w.drew.alloc (.cells (Builtin.zeroCells (Value.string ⟨#[]⟩).cells n ++ Builtin.zeroCells (Value.string ⟨#[]⟩).cells (grownCap w n 0 9 - n)) 9)) w.heap.size (.slice (some ⟨w.heap.size, 0, none⟩) 0 (grownCap w n 0 9)) [] := by
      refine World.ownsRow_made w.drew _ _ (Nat.le_refl _) (by unfold maxLen; omega) ?_
      rw [Array.size_append, zeroCells_size, zeroCells_size]
      simp [Value.cells]
      omega
    have hk := ((Keeps.refl w).drew).alloc (.cells (Builtin.zeroCells (Value.string ⟨#[]⟩).cells n ++ Builtin.zeroCells (Value.string ⟨#[]⟩).cells (grownCap w n 0 9 - n)) 9)
    generalize w.drew.alloc (.cells (Builtin.zeroCells (Value.string ⟨#[]⟩).cells n ++ Builtin.zeroCells (Value.string ⟨#[]⟩).cells (grownCap w n 0 9 - n)) 9) = w1 at hrun hown hk
    generalize grownCap w n 0 9 = c1 at *
    have HR := hid hrun; clear hrun
    clear hz0 hz1 hz2 hi
    go_enter Tryz.func265, Tryz.ntmps265
    go_wp2_with (at_builtin; refine Lib.wpList_append_run _ rfl _ _ _ _ rfl _ _ rfl rfl _ _ HR.out ?_)
    go_ret
    exact ⟨_, rfl, hown, hk⟩
  · obtain rfl : n = 0 := by omega
    go_enter Tryz.func265, Tryz.ntmps265
    go_wp2
    go_ret
    exact ⟨_, rfl, OwnS.nil _ _, Keeps.refl _⟩
--
set_option maxHeartbeats 1000000 in
theorem concatS_any (l : List (List ByteArray)) (v : Value) (w : World) (hv : StrL w v l) (hl : (fl l l.length).length ≤ 2147483648) :
    Calls Tryz.prog 188 #[v] w (RetSt w (fl l l.length)) := by
  have hv0 := hv
  obtain ⟨p, cap, rfl, hle, hmx, hlen, _⟩ := hv
  unfold maxLen at hmx
  go_enter Tryz.func188, Tryz.ntmps188
  go_wp2
  go_loop [3, 11] (fun s i' => ∃ k : Nat, k ≤ l.length ∧ i' = .int .i64 k ∧ s = .int .i64 (fl l k).length) (fun _ i => l.length - (intOf i).toNat)
  case atStart => exact ⟨0, by omega, rfl, rfl⟩
  case round =>
    obtain ⟨k, hk, rfl, rfl⟩ := hrel
    have hf := fl_le l k
    by_cases hlt : k < l.length
    · obtain ⟨b, off, u, rfl, h1, hu0⟩ := hv0.get k hlt
      obtain ⟨pu, capu, rfl, g1, g2, g3, g4⟩ := hu0.at
      have hft := fl_succ l k hlt
      have hf2 := fl_le l (k + 1)
      have hlen2 : (fl l (k + 1)).length = (fl l k).length + l[k].length := by rw [hft]; simp
      have hsum : (fl l k).length + l[k].length ≤ 2147483648 := by omega
      have HL := hid hlen2; clear hlen2 hft hf2
      clear hv0
      go_wp2
      go_round
      case rel => exact ⟨k + 1, by omega, by go_num, by rw [HL.out]; go_num⟩
      case measure => simp [intOf]; omega
    · obtain rfl : k = l.length := by omega
      clear hf hk hlt
      go_wp2_with (go_at_call 265; refine (growS_any _ _ hl).mono ?_; rintro e w1 ⟨v1, rfl, hv1, k1⟩)
      go_loopw [6, 27] (fun s i' wr => ∃ k : Nat, k ≤ l.length ∧ i' = .int .i64 k ∧ OwnS wr w.heap.size s (fl l k) ∧ Keeps w wr) (fun _ i _ => l.length - (intOf i).toNat)
      case atStart => exact ⟨0, by omega, rfl, hv1, k1⟩
      case round =>
        obtain ⟨k, hk, rfl, hown, kw⟩ := hrel
        by_cases hlt : k < l.length
        · obtain ⟨b, off, u, rfl, h1, hu⟩ := (hv0.keeps kw).get k hlt
          have hft := fl_succ l k hlt
          have hf2 := fl_le l (k + 1)
          have hsum : (fl l k).length + l[k].length ≤ 2147483648 := by
            have : (fl l (k + 1)).length = (fl l k).length + l[k].length := by rw [hft]; simp
            omega
          have HF := hid hft; clear hft hf2
          clear hv0
          have hsz := kw.size
          go_wp2_with (at_builtin; refine appS rfl _ _ rfl w.heap.size _ _ rfl hown _ _ rfl hu hsz hsum ?_; intro v2 w2 hv2 hg2 hr2; have k2 : Keeps w w2 := kw.grown hg2 hr2)
          go_roundw
          case rel => exact ⟨k + 1, by omega, by go_num, by rw [HF.out]; exact hv2, k2⟩
          case measure => simp [intOf]; omega
        · obtain rfl : k = l.length := by omega
          go_wp2
          go_ret
          exact ⟨_, rfl, hown, kw⟩
end Go.Proofs.YtgnlfceloiilbaaGreat
