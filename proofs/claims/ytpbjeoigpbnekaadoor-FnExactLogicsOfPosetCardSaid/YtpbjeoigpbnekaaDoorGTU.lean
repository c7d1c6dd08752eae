/- Walks of the small functions on numbers and of the reference's formula readers. -/
import Derived.Test.YtpbjeoigpbnekaaDoorGBase
import Derived.Deep.RegionLaw
namespace Go.Proofs.YtpbjeoigpbnekaaDoor
open Go.RowKit

def idxOf {α : Type} (pr : α → Bool) : List α → Nat → Int
  | [], _ => -1
  | x :: l, k => if pr x then k else idxOf pr l (k + 1)
theorem idxOf_any {α : Type} (pr : α → Bool) (l : List α) : ∀ k, decide (idxOf pr l k ≥ 0) = l.any pr := by
  induction l with
  | nil => intro k; simp [idxOf]
  | cons x l ih =>
    intro k
    cases h : pr x
    · have := ih (k + 1); simp only [idxOf, List.any_cons, h]; simpa using this
    · simp only [idxOf, h, List.any_cons]; simp
theorem idxOf_drop {α : Type} (pr : α → Bool) (l : List α) (k : Nat) (h : k < l.length) : idxOf pr (l.drop k) k = if pr l[k] then (k : Int) else idxOf pr (l.drop (k + 1)) (k + 1) := by
  rw [List.drop_eq_getElem_cons h]; rfl
theorem idxOf_end {α : Type} (pr : α → Bool) (l : List α) (k : Nat) (h : l.length ≤ k) : idxOf pr (l.drop k) k = -1 := by
  rw [List.drop_eq_nil_of_le h]; rfl
/-- the callee's text is there -/
def Enters (f : FuncId) : Prop := ∀ args w, (callFunc f args).run Tryd.prog w = .ok (.enter f args) w
def inR (x l h : Int) : Bool := decide (l ≤ x ∧ x ≤ h)
--
set_option maxHeartbeats 400000 in
theorem l01In_any (x l h : Int) (w : World) : Calls Tryd.prog 49 #[.int .i64 x, .int .i64 l, .int .i64 h] w fun e w' => e = .returned (.bool (inR x l h)) ∧ w = w' := by
  by_cases h1 : l ≤ x
  · by_cases h2 : x ≤ h
    all_goals
      go_enter Tryd.func49, Tryd.ntmps49
      go_wp2
      go_ret
      exact ⟨ret_bool (by simp [inR, *]), rfl⟩
  · go_enter Tryd.func49, Tryd.ntmps49
    go_wp2
    go_ret
    exact ⟨ret_bool (by simp [inR]; omega), rfl⟩
--
set_option maxHeartbeats 400000 in
theorem inRange_any (x l h : Int) (w : World) : Calls Tryd.prog 34 #[.int .i64 x, .int .i64 l, .int .i64 h] w fun e w' => e = .returned (.bool (inR x l h)) ∧ w = w' := by
  by_cases h1 : l ≤ x
  · by_cases h2 : x ≤ h
    all_goals
      go_enter Tryd.func34, Tryd.ntmps34
      go_wp2
      go_ret
      exact ⟨ret_bool (by simp [inR, *]), rfl⟩
  · go_enter Tryd.func34, Tryd.ntmps34
    go_wp2
    go_ret
    exact ⟨ret_bool (by simp [inR]; omega), rfl⟩
end Go.Proofs.YtpbjeoigpbnekaaDoor
/- Walks: masks and posets. -/
namespace Go.Proofs.YtpbjeoigpbnekaaDoor
open Go.RowKit

--
theorem wrap_pow : ∀ k : Nat, k ≤ 62 → wrap64 (2 ^ k) = 2 ^ k := by
  intro k hk
  have : ∀ j : Fin 63, wrap64 (2 ^ (j : Nat)) = 2 ^ (j : Nat) := by decide +kernel
  exact this ⟨k, by omega⟩
theorem l01One_any (i : Int) (w : World) (h0 : 0 ≤ i) (h1 : i ≤ 62) : Calls Tryd.prog 60 #[.int .i64 i] w fun e w' => e = .returned (.int .i64 (2 ^ i.toNat)) ∧ w = w' := by
  go_enter Tryd.func60, Tryd.ntmps60
  go_wp2
  go_ret
  refine ⟨ret_int ?_, rfl⟩
  exact wrap_pow _ (by omega)
--
theorem l01Full_any (i : Int) (w : World) (h0 : 0 ≤ i) (h1 : i ≤ 62) : Calls Tryd.prog 58 #[.int .i64 i] w fun e w' => e = .returned (.int .i64 (2 ^ i.toNat - 1)) ∧ w = w' := by
  have hp : (1 : Int) ≤ 2 ^ i.toNat := by
    have : ∀ j : Fin 63, (1 : Int) ≤ (2 : Int) ^ (j : Nat) := by decide +kernel
    exact this ⟨i.toNat, by omega⟩
  have hm : (2 : Int) ^ i.toNat ≤ 4611686018427387904 := by
    have : ∀ j : Fin 63, (2 : Int) ^ (j : Nat) ≤ 4611686018427387904 := by decide +kernel
    exact this ⟨i.toNat, by omega⟩
  generalize hP : (2 : Int) ^ i.toNat = P at *
  have HP := hid hP; clear hP
  go_enter Tryd.func58, Tryd.ntmps58
  go_wp2_with fail
  refine (l01One_any i _ h0 h1).mono ?_
  rintro e w' ⟨rfl, rfl⟩
  rw [HP.out]
  go_wp2_with fail
  go_ret
  exact ⟨rfl, rfl⟩
/-- fresh numbers come back -/
def RetI (w : World) (a : List Int) (e : Ending) (w' : World) : Prop := ∃ v, e = .returned v ∧ OwnI w' w.heap.size v a ∧ Keeps w w'
--
theorem l01Own_any (a : List Int) (v : Value) (w : World) (hv : Ints w v a) : Calls Tryd.prog 97 #[v] w (RetI w a) := by
  have hlen : a.length ≤ 2147483648 := by obtain ⟨_, _, _, _, _, _, h⟩ := hv; exact h
  have h1 := OwnI.empty w
  have k1 := (Keeps.refl w).alloc (.cells #[] 2)
  have hv1 := hv.keeps k1
  go_enter Tryd.func97, Tryd.ntmps97
  go_wp2_with (at_builtin; refine appI rfl _ _ rfl w.heap.size _ [] rfl h1 _ a rfl hv1 (by simp) (by simpa using hlen) ?_; intro v1 w1 hv1 hg1 hr1; have k2 : Keeps w w1 := k1.grown hg1 hr1)
  go_ret
  exact ⟨_, rfl, by simpa using hv1, k2⟩
--
theorem within_any (a b : Int) (w : World) : Calls Tryd.prog 78 #[.int .i64 a, .int .i64 b] w fun e w' => e = .returned (.bool (bits .andNot .i64 a b == 0)) ∧ w = w' := by
  go_enter Tryd.func78, Tryd.ntmps78
  go_wp2
  go_ret
  exact ⟨rfl, rfl⟩
end Go.Proofs.YtpbjeoigpbnekaaDoor
/- Walks: the laws' own comparisons and marks of number lists and posets. -/
namespace Go.Proofs.YtpbjeoigpbnekaaDoor
open Go.RowKit

--
set_option maxHeartbeats 400000 in
theorem eqInt64S_any (a b : List Int) (va vb : Value) (w : World) (hva : Ints w va a) (hvb : Ints w vb b) :
    Calls Tryd.prog 23 #[va, vb] w fun e w' => e = .returned (.bool (decide (a = b))) ∧ Keeps w w' := by
  have hva0 := hva
  have hvb0 := hvb
  obtain ⟨pa, ca, rfl, hlea, hmxa, _, hlena⟩ := hva
  obtain ⟨pb, cb, rfl, hleb, hmxb, _, hlenb⟩ := hvb
  unfold maxLen at hmxa hmxb
  by_cases hl : a.length = b.length
  · have hl' : ((a.length : Int) != (b.length : Int)) = false := by simp [hl]
    have HL := hid hl; clear hl
    go_enter Tryd.func23, Tryd.ntmps23
    go_wp2
    go_loopw [4, 5] (fun r i' wr => ∃ k : Nat, k ≤ a.length ∧ a.take k = b.take k ∧ Keeps w wr ∧ i' = .int .i64 k ∧ r = .bool false) (fun _ i _ => a.length - (intOf i).toNat)
    case atStart => exact ⟨0, by omega, rfl, Keeps.refl w, rfl, rfl⟩
    case round =>
      obtain ⟨k, hk, htk, kw, rfl, rfl⟩ := hrel
      have HT := hid htk; clear htk
      clear hl'
      by_cases hlt : k < a.length
      · have hltb : k < b.length := by have := HL.out; omega
        obtain ⟨_, _, e1, _, _, hata, _⟩ := hva0.keeps kw
        obtain ⟨_, _, e2, _, _, hatb, _⟩ := hvb0.keeps kw
        cases e1; cases e2
        obtain ⟨b1, o1, rfl, h1⟩ := hata.int k hlt
        obtain ⟨b2, o2, rfl, h3⟩ := hatb.int k hltb
        clear hata hatb hva0 hvb0
        have hlt' : (k : Int) < a.length := by omega
        have hltb' : (k : Int) < b.length := by omega
        by_cases he : a[k] = b[k]
        · have hd : (a[k] != b[k]) = false := by simp [he]
          have HE := hid he; clear he
          go_wp2_with fail
          go_quiet (fail)
          go_wp2
          go_roundw
          case rel => exact ⟨k + 1, by omega, by rw [List.take_succ_eq_append_getElem hlt, List.take_succ_eq_append_getElem hltb, HT.out, HE.out], kw.drewN _, by go_num, rfl⟩
          case measure => simp [intOf]; omega
        · have hd : (a[k] != b[k]) = true := by simp [he]
          have HE := hid he; clear he
          go_wp2_with fail
          go_quiet (fail)
          go_wp2
          go_ret
          refine ⟨ret_bool ?_, kw.drewN _⟩
          symm; rw [decide_eq_false_iff_not]
          rintro rfl; exact HE.out rfl
      · go_wp2
        go_ret
        refine ⟨ret_bool ?_, kw⟩
        symm; rw [decide_eq_true_eq]
        have h1 := HL.out; have h2 := HT.out
        rw [List.take_of_length_le (by omega), List.take_of_length_le (by omega)] at h2
        exact h2
  · have hl' : ((a.length : Int) != (b.length : Int)) = true := by simp; omega
    have HL := hid hl; clear hl
    go_enter Tryd.func23, Tryd.ntmps23
    go_wp2
    go_ret
    refine ⟨ret_bool ?_, Keeps.refl _⟩
    symm; rw [decide_eq_false_iff_not]
    rintro rfl; exact HL.out rfl
--
/-- the marks of a list of numbers, counted from k on -/
def marksI : Nat → Int → List Int
  | 0, _ => []
  | n + 1, k => k :: marksI n (k + 1)
theorem marksI_length (n : Nat) : ∀ k, (marksI n k).length = n := by
  induction n with
  | zero => intro k; rfl
  | succ n ih => intro k; simp [marksI, ih]
theorem marksI_succ (n : Nat) : ∀ k, marksI (n + 1) k = marksI n k ++ [k + n] := by
  induction n with
  | zero => intro k; simp [marksI]
  | succ n ih =>
    intro k
    rw [marksI, ih (k + 1), marksI]
    simp; omega
theorem marksI_get (n : Nat) : ∀ (k : Int) (i : Nat) (h : i < (marksI n k).length), (marksI n k)[i] = k + i := by
  induction n with
  | zero => intro k i h; simp [marksI] at h
  | succ n ih =>
    intro k i h
    cases i with
    | zero => simp [marksI]
    | succ i =>
      have := ih (k + 1) i (by simpa [marksI] using h)
      simp only [marksI, List.getElem_cons_succ, this]
      simp; omega
set_option maxHeartbeats 1000000 in
theorem markInt64S_any (a : List Int) (v : Value) (k0 : Int) (w : World) (B : Nat) (hv : OwnI w B v a) (hl : a.length ≤ 2147483648) (hk0 : 0 ≤ k0) (hk1 : k0 ≤ 4294967296) :
    Calls Tryd.prog 27 #[v, .int .i64 k0] w fun e w' => e = .returned (.int .i64 (k0 + a.length)) ∧ OwnI w' B v (marksI a.length k0) ∧ w.grownBy w' v.ownBlock := by
  have hdist : a = [] ∨ 0 < a.length := by cases a with
    | nil => exact .inl rfl
    | cons x l => right; simp
  rcases hdist with rfl | hpos
  · obtain ⟨p, cap, rfl, _, _, _⟩ := At.of_own hv
    go_enter Tryd.func27, Tryd.ntmps27
    go_wp2
    refine wp_loop_once ?_
    go_wp2
    go_ret
    exact ⟨by simp, hv, grown_refl _ _⟩
  · obtain ⟨g, cap, rfl, hB, hg, hle, hmx⟩ := hv.shape hpos
    unfold maxLen at hmx
    go_enter Tryd.func27, Tryd.ntmps27
    go_wp2
    go_loopw [1, 5] (fun c i' wr => ∃ (k : Nat) (xs : List Int), k ≤ a.length ∧ i' = .int .i64 k ∧ c = .int .i64 (k0 + k) ∧ xs.length = a.length ∧ xs.take k = marksI k k0 ∧ OwnI wr B (.slice (some ⟨g, 0, none⟩) a.length cap) xs ∧ w.grownBy wr (some g)) (fun _ i _ => a.length - (intOf i).toNat)
    case atStart => exact ⟨0, a, by omega, rfl, by simp, rfl, by simp [marksI], hv, grown_refl _ _⟩
    case round =>
      obtain ⟨k, xs, hk, rfl, rfl, hxl, htk, hownk, hgr⟩ := hrel
      have HX := hid hxl; clear hxl
      have HT := hid htk; clear htk
      clear hv
      by_cases hlt : k < a.length
      · have hltx : k < xs.length := by have := HX.out; omega
        obtain ⟨c1, c3⟩ := hownk.cell k hltx
        have h3 := (hownk.store k hltx (k0 + k)).1
        have HO := hid hownk; clear hownk
        have H3 := hid h3; clear h3
        go_wp2
        go_roundw
        case rel =>
          refine ⟨k + 1, _, by omega, by go_num, by go_num, ?_, ?_, H3.out, ?_⟩
          · rw [List.length_set]; exact HX.out
          · rw [take_set _ _ _ hltx, marksI_succ, HT.out]
          · exact grown_trans hgr (grown_set _ _ _)
        case measure => simp [intOf]; omega
      · go_wp2
        go_ret
        obtain rfl : k = a.length := by omega
        have hx : xs = marksI a.length k0 := by
          have h1 := HX.out; have h2 := HT.out
          rw [List.take_of_length_le (by omega)] at h2
          exact h2
        subst hx
        exact ⟨rfl, hownk, hgr⟩
end Go.Proofs.YtpbjeoigpbnekaaDoor
/- Walks: chains, forks and Medvedev's posets on both sides. -/
namespace Go.Proofs.YtpbjeoigpbnekaaDoor
open Go.RowKit

def andNot (a b : Int) : Int := bits .andNot .i64 a b
def chainL (n : Nat) : Nat → List Int
  | 0 => []
  | k + 1 => chainL n k ++ [andNot (2 ^ n - 1) (2 ^ k - 1)]
theorem chainL_length (n k : Nat) : (chainL n k).length = k := by
  induction k with
  | zero => rfl
  | succ k ih => simp [chainL, ih]
end Go.Proofs.YtpbjeoigpbnekaaDoor
/- Walks: the posets on both sides, and their laws. -/
namespace Go.Proofs.YtpbjeoigpbnekaaDoor
open Go.RowKit

/-- a poset and an error come back -/
def RetPE (w : World) (a : List Int) (c : Int) (e : Ending) (w' : World) : Prop := ∃ v, e = .returned (.tuple #[.agg #[.int .i64 a.length, v], .int .i64 c]) ∧ OwnI w' w.heap.size v a ∧ Keeps w w'
--
set_option maxHeartbeats 400000 in
theorem eqPoset_any (a b : List Int) (va vb : Value) (w : World) (hva : Ints w va a) (hvb : Ints w vb b) :
    Calls Tryd.prog 9 #[.agg #[.int .i64 a.length, va], .agg #[.int .i64 b.length, vb]] w fun e w' => e = .returned (.bool (decide (a = b))) ∧ Keeps w w' := by
  obtain ⟨pa, na, ca, rfl⟩ : ∃ p n c, va = .slice p n c := by obtain ⟨p, c, e, _⟩ := hva; exact ⟨p, _, c, e⟩
  obtain ⟨pb, nb, cb, rfl⟩ : ∃ p n c, vb = .slice p n c := by obtain ⟨p, c, e, _⟩ := hvb; exact ⟨p, _, c, e⟩
  have k1 := ((Keeps.refl w).alloc (.cells #[.int .i64 a.length, .slice pa na ca] 28)).alloc (.cells #[.int .i64 b.length, .slice pb nb cb] 28)
  by_cases hl : a.length = b.length
  · have hl' : ((a.length : Int) != (b.length : Int)) = false := by simp [hl]
    have HL := hid hl; clear hl
    have HE := hid (eqInt64S_any a b _ _ _ (hva.keeps k1) (hvb.keeps k1))
    by_cases he : a = b
    · have hd : decide (a = b) = true := decide_eq_true he
      have HD := hid hd; clear hd
      clear he
      go_enter Tryd.func9, Tryd.ntmps9
      go_wp2_with fail
      refine HE.out.mono ?_
      rintro e w2 ⟨rfl, k2⟩
      rw [HD.out]
      go_wp2_with fail
      go_ret
      exact ⟨ret_bool HD.out.symm, k1.trans k2⟩
    · have hd : decide (a = b) = false := decide_eq_false he
      have HD := hid hd; clear hd
      clear he
      go_enter Tryd.func9, Tryd.ntmps9
      go_wp2_with fail
      refine HE.out.mono ?_
      rintro e w2 ⟨rfl, k2⟩
      rw [HD.out]
      go_wp2_with fail
      go_ret
      exact ⟨ret_bool HD.out.symm, k1.trans k2⟩
  · have hl' : ((a.length : Int) != (b.length : Int)) = true := by simp; omega
    have hd : decide (a = b) = false := decide_eq_false (by rintro rfl; exact hl rfl)
    have HD := hid hd; clear hd
    clear hl
    go_enter Tryd.func9, Tryd.ntmps9
    go_wp2_with fail
    go_ret
    exact ⟨ret_bool HD.out.symm, k1⟩
--
theorem grown_pre {w w1 w2 : World} {row : Option Nat} (h : Keeps w w1) (k : w1.grownBy w2 row) : w.grownBy w2 row :=
  ⟨k.os.trans h.os, k.tape.trans h.tape, k.output.trans h.output, Nat.le_trans h.size k.size, fun i hi hr => (k.block i (Nat.lt_of_lt_of_le hi h.size) hr).trans (h.block hi)⟩
theorem grown_cell {w w' : World} {p : Option Addr} {n c : Nat} (h : w.grownBy w' (Value.slice p n c).ownBlock) {b : Nat} (hb : b < w.heap.size) (hne : some b ≠ (Value.slice p n c).ownBlock) :
    (∀ o, w'.cell? ⟨b, o, none⟩ = w.cell? ⟨b, o, none⟩) ∧ (∀ o, w'.frozen? ⟨b, o, none⟩ = w.frozen? ⟨b, o, none⟩) := by
  have hk := h.block b hb hne
  refine ⟨fun o => World.cell?_of_block (a := ⟨b, o, none⟩) hk, fun o => ?_⟩
  exact World.frozen?_of_block hk
set_option maxHeartbeats 400000 in
theorem markPoset_any (a : List Int) (v : Value) (k0 : Int) (w : World) (B : Nat) (hv : OwnI w B v a) (hl : a.length ≤ 2147483648) (hk0 : 0 ≤ k0) (hk1 : k0 ≤ 4294967296) (_hB : B ≤ w.heap.size) :
    Calls Tryd.prog 13 #[.agg #[.int .i64 a.length, v], .int .i64 k0] w fun e w' => e = .returned (.int .i64 (k0 + a.length)) ∧ OwnI w' B v (marksI a.length k0) ∧ w.grownBy w' v.ownBlock := by
  obtain ⟨p, c, rfl, _⟩ := At.of_own hv
  · have k1 := (Keeps.refl w).alloc (.cells #[.int .i64 a.length, .slice p a.length c] 28)
    have HM := hid (markInt64S_any a _ k0 _ B (hv.keeps k1) hl hk0 hk1)
    have hlen := fun k hk => (hv.len k hk).1
    go_enter Tryd.func13, Tryd.ntmps13
    go_wp2_with fail
    refine HM.out.mono ?_
    rintro e w2 ⟨rfl, hv2, g2⟩
    go_wp2_with fail
    go_ret
    exact ⟨rfl, hv2, grown_pre k1 g2⟩
end Go.Proofs.YtpbjeoigpbnekaaDoor
/- Worlds in which some blocks are written: what lies elsewhere is as it was. -/
namespace Go.Proofs.YtpbjeoigpbnekaaDoor
open Go.RowKit

/-- blocks outside a set are as they were -/
structure Touch (w w' : World) (S : Nat → Prop) : Prop where
  os : w'.os = w.os
  tape : w'.tape = w.tape
  output : w'.output = w.output
  size : w.heap.size ≤ w'.heap.size
  block : ∀ k, k < w.heap.size → ¬ S k → w'.heap[k]? = w.heap[k]?
theorem Touch.refl (w : World) (S : Nat → Prop) : Touch w w S := ⟨rfl, rfl, rfl, Nat.le_refl _, fun _ _ _ => rfl⟩
theorem Touch.trans {a b c : World} {S : Nat → Prop} (h : Touch a b S) (k : Touch b c S) : Touch a c S :=
  ⟨k.os.trans h.os, k.tape.trans h.tape, k.output.trans h.output, Nat.le_trans h.size k.size, fun i hi hs => (k.block i (Nat.lt_of_lt_of_le hi h.size) hs).trans (h.block i hi hs)⟩
theorem Touch.mono {a b : World} {S S' : Nat → Prop} (h : Touch a b S) (hs : ∀ k, S k → S' k) : Touch a b S' :=
  ⟨h.os, h.tape, h.output, h.size, fun i hi hn => h.block i hi (fun e => hn (hs i e))⟩
theorem Touch.grown {a b : World} {row : Option Nat} (h : a.grownBy b row) : Touch a b (fun k => some k = row) :=
  ⟨h.os, h.tape, h.output, h.size, fun i hi hn => h.block i hi hn⟩
theorem Touch.of_keeps {a b : World} (h : Keeps a b) (S : Nat → Prop) : Touch a b S :=
  ⟨h.os, h.tape, h.output, h.size, fun _ hi _ => h.block hi⟩
theorem Touch.cell {w w' : World} {S : Nat → Prop} (h : Touch w w' S) {b : Nat} (hb : b < w.heap.size) (hs : ¬ S b) :
    (∀ o, w'.cell? ⟨b, o, none⟩ = w.cell? ⟨b, o, none⟩) ∧ (∀ o, w'.frozen? ⟨b, o, none⟩ = w.frozen? ⟨b, o, none⟩) :=
  ⟨fun o => World.cell?_of_block (a := ⟨b, o, none⟩) (h.block b hb hs), fun o => World.frozen?_of_block (a := ⟨b, o, none⟩) (h.block b hb hs)⟩
theorem Keeps.touch {a w w' : World} {S : Nat → Prop} (h : Keeps a w) (k : Touch w w' S) (hS : ∀ i, S i → a.heap.size ≤ i) : Keeps a w' :=
  ⟨k.os.trans h.os, k.tape.trans h.tape, k.output.trans h.output, Nat.le_trans h.size k.size, fun i hi => (k.block i (Nat.lt_of_lt_of_le hi h.size) (fun e => by have := hS i e; omega)).trans (h.block hi)⟩
theorem own_touch {w w' : World} {S : Nat → Prop} {base : Nat} {e : TypeId} {size : Nat} {v : Value} {n : Nat} {xs : List Value} (h : w.ownsRow base e size v n xs) (k : Touch w w' S) (hS : ∀ i, v.ownBlock = some i → ¬ S i) : w'.ownsRow base e size v n xs := by
  refine ⟨h.1, ?_⟩
  rcases h.2 with hn | ⟨g, cap, cur, rfl, hb, hgg, rest⟩
  · exact .inl hn
  · exact .inr ⟨g, cap, cur, rfl, hb, (k.block g (Array.getElem?_eq_some_iff.1 hgg).1 (hS g rfl)).trans hgg, rest⟩
/-- nothing from block B on has changed -/
def Low (w w' : World) (B : Nat) : Prop := Touch w w' (fun i => i < B)
theorem Low.of {w w' : World} (h : Keeps w w') (B : Nat) : Low w w' B := Touch.of_keeps h _
theorem Low.trans {a b c : World} {B : Nat} (h : Low a b B) (k : Low b c B) : Low a c B := Touch.trans h k
theorem Low.keeps {a b c : World} {B : Nat} (h : Low a b B) (k : Keeps b c) : Low a c B := Touch.trans h (Touch.of_keeps k _)
theorem Low.touch {a b c : World} {B : Nat} {S : Nat → Prop} (h : Low a b B) (k : Touch b c S) (hS : ∀ i, S i → i < B) : Low a c B := Touch.trans h (k.mono hS)
theorem Keeps.touched {a w w' : World} {B U : Nat} (h : Keeps a w) (k : Touch w w' (fun i => B ≤ i ∧ i < U)) (hB : a.heap.size ≤ B) : Keeps a w' := h.touch k (fun i hi => by omega)
theorem cell_touched {w w' : World} {B U : Nat} {b o : Nat} {v : Value} (h : w.cell? ⟨b, o, none⟩ = some v) (k : Touch w w' (fun i => B ≤ i ∧ i < U)) (hb : b < B ∨ U ≤ b) : w'.cell? ⟨b, o, none⟩ = some v := by
  have hlt : b < w.heap.size := World.block_lt_of_cell? _ _ h
  rw [(k.cell hlt (fun hh => by omega)).1]; exact h
theorem touch_pre {w w1 w2 : World} {S : Nat → Prop} (h : Keeps w w1) (k : Touch w1 w2 S) : Touch w w2 S := (Touch.of_keeps h S).trans k
end Go.Proofs.YtpbjeoigpbnekaaDoor
