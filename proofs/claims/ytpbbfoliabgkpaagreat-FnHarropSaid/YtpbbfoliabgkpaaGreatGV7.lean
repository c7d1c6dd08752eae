/- The readers of both sides read each formula's text: the functions that parse a text. -/
import Derived.Test.YtpbbfoliabgkpaaGreatGP4
import Derived.Test.YtpbbfoliabgkpaaGreatGM3
import Derived.Shelf.Sort.Plain
import Derived.Shelf.Slices.Turned
import Derived.Ground.Names2Prog
import Derived.Shelf.Slices.Clone
import Derived.Shelf.Slices.CompactS
import Derived.Shelf.Slices.Cells
import Derived.Shelf.Slices.In.SortNone
import Derived.Ground.SlgnProg
import Derived.Shelf.SlicesE.Clone
import Derived.Test.YtpbbfoliabgkpaaGreatProg
import Derived.Test.YtpbbfoliabgkpaaGreatGV5
namespace Go.Proofs.YtpbbfoliabgkpaaGreat
open Go.RowKit
theorem isFls_eq {b : Fm} (h : b.isFls = true) : b = .fls := by cases b <;> simp [Fm.isFls] at h <;> rfl
theorem lev3_cases {P : Fm → List UInt8 → Prop} (t : Fm) (hw : t.wf) (hl : t.lev = 3)
    (hv : ∀ v, v < 6 → P (.var v) [UInt8.ofNat (112 + v)]) (hf : P .fls [70]) (ht : P (.imp .fls .fls) [84])
    (hn : ∀ a, a.wf → a.enc.length < (Fm.imp a .fls).enc.length → P (.imp a .fls) (126 :: a.txt 3))
    (hb : ∀ a, a.wf → a.enc.length < (Fm.box a).enc.length → P (.box a) (91 :: 93 :: a.txt 3))
    (hd : ∀ a, a.wf → a.enc.length < (Fm.dia a).enc.length → P (.dia a) (60 :: 62 :: a.txt 3))
    : (∀ x : Fm, x.wf → x.enc.length < t.enc.length → True) → P t t.body := by
  intro _
  cases t with
  | var v => exact hv v hw
  | fls => exact hf
  | and a b => simp [Fm.lev] at hl
  | or a b => simp [Fm.lev] at hl
  | imp a b =>
    have hbf : b.isFls = true := by
      simp only [Fm.lev] at hl; split at hl
      · assumption
      · omega
    obtain rfl := isFls_eq hbf
    by_cases ha : a.isFls = true
    · obtain rfl := isFls_eq ha
      exact ht
    · have := hn a hw.1 (by simp only [Fm.enc, List.length_cons, List.length_append]; omega)
      have hb2 : (Fm.imp a .fls).body = 126 :: a.txt 3 := by
        show (if Fm.fls.isFls = true then (if a.isFls = true then [84] else _) else _) = _
        rw [if_pos (show Fm.fls.isFls = true from rfl), if_neg ha]
        rfl
      rw [hb2]
      exact this
  | box a => exact hb a hw (by simp only [Fm.enc, List.length_cons]; omega)
  | dia a => exact hd a hw (by simp only [Fm.enc, List.length_cons]; omega)
--
theorem implReads (t : Fm) (hw : t.wf) : Reads 239 0 t t.body := by
  have := (reads_all (fun l t X => Reads (match l with | 0 => 239 | 1 => 272 | 2 => 319 | _ => 337) l t X)
    (fun t hw hl hs => by
      have hs' : ∀ x : Fm, x.wf → x.enc.length < t.enc.length → Reads 337 3 x (x.txt 3) := hs
      clear hs
      refine lev3_cases (P := fun u X => (∀ x : Fm, x.wf → x.enc.length < u.enc.length → Reads 337 3 x (x.txt 3)) → Reads 337 3 u X) t hw hl
        (fun v hv _ => iVar v hv) (fun _ => iFls) (fun _ => iTru) (fun a h1 h2 h => iNot a (h a h1 h2)) (fun a h1 h2 h => iBox a (h a h1 h2)) (fun a h1 h2 h => iDia a (h a h1 h2)) (fun _ _ _ => trivial) hs')
    (fun t h => iPar t h) (fun x0 xs h hs => iAnd x0 xs h hs) (fun x0 xs h hs => iOr x0 xs h hs) (fun t X h => iImply0 t X h) (fun a b h1 h2 => iImply1 a b h1 h2) t.enc.length t (Nat.le_refl _) hw).1
  rw [Fm.txt0] at this
  exact this
--
theorem specReads (t : Fm) (hw : t.wf) : Reads 253 0 t t.body := by
  have := (reads_all (fun l t X => Reads (match l with | 0 => 253 | 1 => 287 | 2 => 334 | _ => 348) l t X)
    (fun t hw hl hs => by
      have hs' : ∀ x : Fm, x.wf → x.enc.length < t.enc.length → Reads 348 3 x (x.txt 3) := hs
      clear hs
      refine lev3_cases (P := fun u X => (∀ x : Fm, x.wf → x.enc.length < u.enc.length → Reads 348 3 x (x.txt 3)) → Reads 348 3 u X) t hw hl
        (fun v hv _ => sVar v hv) (fun _ => sPrefix _ _ (.inl ⟨rfl, rfl⟩)) (fun _ => sPrefix _ _ (.inr (.inl ⟨rfl, rfl⟩))) (fun a h1 h2 h => sPrefix _ _ (.inr (.inr (.inl ⟨a, rfl, rfl, h a h1 h2⟩))))
        (fun a h1 h2 h => sPrefix _ _ (.inr (.inr (.inr (.inl ⟨a, rfl, rfl, h a h1 h2⟩))))) (fun a h1 h2 h => sPrefix _ _ (.inr (.inr (.inr (.inr (.inl ⟨a, rfl, rfl, h a h1 h2⟩)))))) (fun _ _ _ => trivial) hs')
    (fun t h => sPrefix t _ (.inr (.inr (.inr (.inr (.inr ⟨rfl, h⟩)))))) (fun x0 xs h hs => sAnd x0 xs h hs) (fun x0 xs h hs => sOr x0 xs h hs) (fun t X h => sImply0 t X h) (fun a b h1 h2 => sImply1 a b h1 h2) t.enc.length t (Nat.le_refl _) hw).1
  rw [Fm.txt0] at this
  exact this
theorem RdAt.new (w : World) (s : ByteArray) (T : TypeId) (hs : s.size ≤ 2147483648) : RdAt (w.alloc (.cells #[.string s, .int .i64 0, .bool false] T)) w.heap.size s 0 false :=
  ⟨by simp, by simp, by simp, by simp, by simp, Nat.zero_le _, hs⟩
--
set_option maxRecDepth 20000 in
set_option maxHeartbeats 1000000 in
theorem l02Read_any (t : Fm) (hw : t.wf) (s : ByteArray) (w : World) (hb : bts s = t.body) (hs : s.size ≤ 2147483648) (hl : t.enc.length ≤ 100000000) :
    Calls Tryz.prog 205 #[.string s] w fun e w' => ∃ v, e = .returned (.tuple #[v, .int .i64 (-1)]) ∧ OwnN w' w.heap.size v t.enc ∧ Keeps w w' := by
  have h0 := RdAt.new w s 197 hs
  have hlen : t.body.length = s.size := by rw [← hb]; show s.data.toList.length = s.data.size; simp
  have HR := hid (specReads t hw _ _ s 0 [] h0 (by simpa using hb) ⟨fun _ => by simp, fun _ => by simp, fun _ => by simp⟩ hl)
  have hlt : decide ((s.size : Int) < s.size) = false := by simp
  have k0 := (Keeps.refl w).alloc (.cells #[.string s, .int .i64 0, .bool false] 197)
  have HL := hid hlen; clear hlen
  clear hb h0
  go_enter Tryz.func205, Tryz.ntmps205
  go_wp2_with fail
  refine HR.out.mono ?_; rintro e w1 ⟨v1, rfl, hv1, h1, g1⟩
  rw [Nat.zero_add, HL.out] at h1
  have kw := k0.grown g1 (fun k hk => by cases hk; exact Nat.le_refl _)
  obtain ⟨c0, c1, c2, f1, f2, le, sz⟩ := h1
  go_wp2_with fail
  go_ret2
  exact ⟨_, rfl, hv1.mono (by simp), kw⟩
--
theorem l31Read_any (t : Fm) (hw : t.wf) (s : ByteArray) (w : World) (hb : bts s = t.body) (hs : s.size ≤ 2147483648) (hl : t.enc.length ≤ 100000000) :
    Calls Tryz.prog 135 #[.string s] w (RetN w t.enc) := by
  have HR := hid (l02Read_any t hw s w hb hs hl)
  clear hb hs
  go_enter Tryz.func135, Tryz.ntmps135
  go_wp2_with fail
  refine HR.out.mono ?_; rintro e w1 ⟨v1, rfl, hv1, k1⟩
  go_wp2_with fail
  go_ret
  exact ⟨_, rfl, hv1, k1⟩
--
set_option maxRecDepth 20000 in
set_option maxHeartbeats 1000000 in
theorem ParseFormula_any (t : Fm) (hw : t.wf) (s : ByteArray) (w : World) (hb : bts s = t.body) (hs : s.size ≤ 200) (hl : t.enc.length ≤ 40) :
    Calls Tryz.prog 170 #[.string s] w fun e w' => ∃ v, e = .returned (.tuple #[v, .int .i64 0, .int .i64 0]) ∧ OwnN w' w.heap.size v t.enc ∧ Keeps w w' := by
  have h0 := RdAt.new w s 183 (by omega)
  have hlen : t.body.length = s.size := by rw [← hb]; show s.data.toList.length = s.data.size; simp
  have HR := hid (implReads t hw _ _ s 0 [] h0 (by simpa using hb) ⟨fun _ => by simp, fun _ => by simp, fun _ => by simp⟩ (by omega))
  have hlt : decide ((s.size : Int) < s.size) = false := by simp
  have hs' : decide ((s.size : Int) > 200) = false := by simp; omega
  have k0 := (Keeps.refl w).alloc (.cells #[.string s, .int .i64 0, .bool false] 183)
  have HL := hid hlen; clear hlen
  clear hb h0
  go_enter Tryz.func170, Tryz.ntmps170
  go_wp2_with fail
  refine HR.out.mono ?_; rintro e w1 ⟨v1, rfl, hv1, h1, g1⟩
  rw [Nat.zero_add, HL.out] at h1
  have kw := k0.grown g1 (fun k hk => by cases hk; exact Nat.le_refl _)
  obtain ⟨c0, c1, c2, f1, f2, le, sz⟩ := h1
  obtain ⟨p1, n1, q1, rfl⟩ : ∃ p n c, v1 = .slice p n c := by obtain ⟨p, c, e, _⟩ := At.of_own hv1; exact ⟨p, _, c, e⟩
  have hn1 : n1 = t.enc.length := by obtain ⟨p, c, e, _⟩ := At.of_own hv1; cases e; rfl
  have hl1 : decide ((n1 : Int) > 40) = false := by simp; omega
  have HN1 := hid hn1; clear hn1
  go_wp2_with fail
  refine bodyPost_ret (v := .tuple #[.slice p1 n1 q1, .int .i64 0, .int .i64 0]) (by simp [results, Tryz.results170, go_sem]) rfl ?_
  exact ⟨_, rfl, hv1.mono (by simp), kw⟩
--
theorem parsed_any (t : Fm) (hw : t.wf) (s : ByteArray) (w : World) (hb : bts s = t.body) (hs : s.size ≤ 200) (hl : t.enc.length ≤ 40) :
    Calls Tryz.prog 72 #[.string s] w (RetN w t.enc) := by
  have HR := hid (ParseFormula_any t hw s w hb hs hl)
  clear hb hs hl
  go_enter Tryz.func72, Tryz.ntmps72
  go_wp2_with fail
  refine HR.out.mono ?_; rintro e w1 ⟨v1, rfl, hv1, k1⟩
  go_wp2_with fail
  go_ret
  exact ⟨_, rfl, hv1, k1⟩
end Go.Proofs.YtpbbfoliabgkpaaGreat
/- Plain law: a text belongs to one formula alone; how long texts are. -/
namespace Go.Proofs.YtpbbfoliabgkpaaGreat
open Fm
/-- a reader in plain Lean: levels 0 to 3 of the grammar, 4 and 5 for the loops of & and | -/
def prs : Nat → Nat → Fm → List UInt8 → Option (Fm × List UInt8)
  | 0, _, _, _ => none
  | n + 1, 0, _, X => match prs n 1 fls X with
    | some (a, 62 :: r) => (match prs n 0 fls r with | some (b, r') => some (imp a b, r') | none => none)
    | some (a, r) => some (a, r)
    | none => none
  | n + 1, 1, _, X => match prs n 2 fls X with | some (a, r) => prs n 5 a r | none => none
  | n + 1, 2, _, X => match prs n 3 fls X with | some (a, r) => prs n 4 a r | none => none
  | n + 1, 3, _, X => match X with
    | 126 :: r => (match prs n 3 fls r with | some (a, r') => some (imp a fls, r') | none => none)
    | 91 :: 93 :: r => (match prs n 3 fls r with | some (a, r') => some (box a, r') | none => none)
    | 60 :: 62 :: r => (match prs n 3 fls r with | some (a, r') => some (dia a, r') | none => none)
    | 70 :: r => some (fls, r)
    | 84 :: r => some (imp fls fls, r)
    | 40 :: r => (match prs n 0 fls r with | some (a, 41 :: r') => some (a, r') | _ => none)
    | c :: r => if 112 ≤ c.toNat ∧ c.toNat < 118 then some (var (c.toNat - 112), r) else none
    | [] => none
  | n + 1, 4, acc, X => match X with
    | 38 :: r => (match prs n 3 fls r with | some (b, r') => prs n 4 (.and acc b) r' | none => none)
    | r => some (acc, r)
  | n + 1, _, acc, X => match X with
    | 124 :: r => (match prs n 2 fls r with | some (b, r') => prs n 5 (.or acc b) r' | none => none)
    | r => some (acc, r)
def Prs (l : Nat) (t : Fm) (X : List UInt8) : Prop := ∃ N, ∀ n, N ≤ n → ∀ r, stops l r → prs n l fls (X ++ r) = some (t, r)
theorem prs4_end (n : Nat) (acc : Fm) (r : List UInt8) (h : r.head? ≠ some 38) : prs (n + 1) 4 acc r = some (acc, r) := by
  cases r with
  | nil => rfl
  | cons c r =>
    have hc : c ≠ 38 := fun e => h (by rw [e]; rfl)
    simp [prs, hc]
theorem prs5_end (n : Nat) (acc : Fm) (r : List UInt8) (h : r.head? ≠ some 124) : prs (n + 1) 5 acc r = some (acc, r) := by
  cases r with
  | nil => rfl
  | cons c r =>
    have hc : c ≠ 124 := fun e => h (by rw [e]; rfl)
    simp [prs, hc]
theorem prs4_all (xs : List Fm) : ∀ acc, (∀ x ∈ xs, Prs 3 x (x.txt 3)) → ∃ N, ∀ n, N ≤ n → ∀ r, stops 2 r → prs n 4 acc (behind 38 3 xs ++ r) = some (xs.foldl Fm.and acc, r) := by
  induction xs with
  | nil =>
    intro acc _
    refine ⟨1, fun n hn r hr => ?_⟩
    obtain ⟨m, rfl⟩ : ∃ m, n = m + 1 := ⟨n - 1, by omega⟩
    exact prs4_end m acc r (hr.1 (by omega))
  | cons x xs ih =>
    intro acc h
    obtain ⟨N1, h1⟩ := h x (List.mem_cons_self ..)
    obtain ⟨N2, h2⟩ := ih (Fm.and acc x) (fun y hy => h y (List.mem_cons_of_mem _ hy))
    refine ⟨max N1 N2 + 1, fun n hn r hr => ?_⟩
    obtain ⟨m, rfl⟩ : ∃ m, n = m + 1 := ⟨n - 1, by omega⟩
    have e1 := h1 m (by omega) (behind 38 3 xs ++ r) (stops3 _)
    have e2 := h2 m (by omega) r hr
    simp only [behind, List.cons_append, List.append_assoc, prs, e1, e2, List.foldl_cons]
theorem stops_behind (xs : List Fm) (r : List UInt8) (hr : stops 1 r) : stops 2 (behind 124 2 xs ++ r) := by
  cases xs with
  | nil => exact hr.up (by omega)
  | cons x xs => exact ⟨fun _ => by simp [behind], fun e => by omega, fun e => by omega⟩
theorem prs5_all (xs : List Fm) : ∀ acc, (∀ x ∈ xs, Prs 2 x (x.txt 2)) → ∃ N, ∀ n, N ≤ n → ∀ r, stops 1 r → prs n 5 acc (behind 124 2 xs ++ r) = some (xs.foldl Fm.or acc, r) := by
  induction xs with
  | nil =>
    intro acc _
    refine ⟨1, fun n hn r hr => ?_⟩
    obtain ⟨m, rfl⟩ : ∃ m, n = m + 1 := ⟨n - 1, by omega⟩
    exact prs5_end m acc r (hr.2.1 (by omega))
  | cons x xs ih =>
    intro acc h
    obtain ⟨N1, h1⟩ := h x (List.mem_cons_self ..)
    obtain ⟨N2, h2⟩ := ih (Fm.or acc x) (fun y hy => h y (List.mem_cons_of_mem _ hy))
    refine ⟨max N1 N2 + 1, fun n hn r hr => ?_⟩
    obtain ⟨m, rfl⟩ : ∃ m, n = m + 1 := ⟨n - 1, by omega⟩
    have e1 := h1 m (by omega) (behind 124 2 xs ++ r) (stops_behind xs r hr)
    have e2 := h2 m (by omega) r hr
    simp only [behind, List.cons_append, List.append_assoc, prs, e1, e2, List.foldl_cons]
theorem prs_all (t : Fm) (hw : t.wf) : Prs 0 t t.body := by
  have := (reads_all Prs
    (fun t hw hl hs => by
      refine lev3_cases (P := fun u X => (∀ x : Fm, x.wf → x.enc.length < u.enc.length → Prs 3 x (x.txt 3)) → Prs 3 u X) t hw hl ?_ ?_ ?_ ?_ ?_ ?_ (fun _ _ _ => trivial) hs
      · intro v hv _
        refine ⟨1, fun n hn r _ => ?_⟩
        obtain ⟨m, rfl⟩ : ∃ m, n = m + 1 := ⟨n - 1, by omega⟩
        have hv' : v = 0 ∨ v = 1 ∨ v = 2 ∨ v = 3 ∨ v = 4 ∨ v = 5 := by omega
        rcases hv' with rfl | rfl | rfl | rfl | rfl | rfl <;> rfl
      · intro _
        refine ⟨1, fun n hn r _ => ?_⟩
        obtain ⟨m, rfl⟩ : ∃ m, n = m + 1 := ⟨n - 1, by omega⟩
        rfl
      · intro _
        refine ⟨1, fun n hn r _ => ?_⟩
        obtain ⟨m, rfl⟩ : ∃ m, n = m + 1 := ⟨n - 1, by omega⟩
        rfl
      · intro a ha hl h
        obtain ⟨N, h⟩ := h a ha hl
        refine ⟨N + 1, fun n hn r hr => ?_⟩
        obtain ⟨m, rfl⟩ : ∃ m, n = m + 1 := ⟨n - 1, by omega⟩
        have e := h m (by omega) r hr
        simp only [List.cons_append, prs, e]
      · intro a ha hl h
        obtain ⟨N, h⟩ := h a ha hl
        refine ⟨N + 1, fun n hn r hr => ?_⟩
        obtain ⟨m, rfl⟩ : ∃ m, n = m + 1 := ⟨n - 1, by omega⟩
        have e := h m (by omega) r hr
        simp only [List.cons_append, prs, e]
      · intro a ha hl h
        obtain ⟨N, h⟩ := h a ha hl
        refine ⟨N + 1, fun n hn r hr => ?_⟩
        obtain ⟨m, rfl⟩ : ∃ m, n = m + 1 := ⟨n - 1, by omega⟩
        have e := h m (by omega) r hr
        simp only [List.cons_append, prs, e])
    (fun t h => by
      obtain ⟨N, h⟩ := h
      refine ⟨N + 1, fun n hn r hr => ?_⟩
      obtain ⟨m, rfl⟩ : ∃ m, n = m + 1 := ⟨n - 1, by omega⟩
      have e := h m (by omega) (41 :: r) ⟨fun _ => by simp, fun _ => by simp, fun _ => by simp⟩
      simp only [List.cons_append, List.append_assoc, List.nil_append, prs, e])
    (fun x0 xs h hs => by
      obtain ⟨N1, h1⟩ := h
      obtain ⟨N2, h2⟩ := prs4_all xs x0 hs
      refine ⟨max N1 N2 + 1, fun n hn r hr => ?_⟩
      obtain ⟨m, rfl⟩ : ∃ m, n = m + 1 := ⟨n - 1, by omega⟩
      have e1 := h1 m (by omega) (behind 38 3 xs ++ r) (stops3 _)
      have e2 := h2 m (by omega) r hr
      simp only [List.append_assoc, prs, e1, e2])
    (fun x0 xs h hs => by
      obtain ⟨N1, h1⟩ := h
      obtain ⟨N2, h2⟩ := prs5_all xs x0 hs
      refine ⟨max N1 N2 + 1, fun n hn r hr => ?_⟩
      obtain ⟨m, rfl⟩ : ∃ m, n = m + 1 := ⟨n - 1, by omega⟩
      have e1 := h1 m (by omega) (behind 124 2 xs ++ r) (stops_behind xs r hr)
      have e2 := h2 m (by omega) r hr
      simp only [List.append_assoc, prs, e1, e2])
    (fun t X h => by
      obtain ⟨N, h⟩ := h
      refine ⟨N + 1, fun n hn r hr => ?_⟩
      obtain ⟨m, rfl⟩ : ∃ m, n = m + 1 := ⟨n - 1, by omega⟩
      have e := h m (by omega) r (hr.up (by omega))
      have h62 := hr.2.2 rfl
      simp only [prs, e]
      cases r with
      | nil => rfl
      | cons c r =>
        have hc : c ≠ 62 := fun e => h62 (by rw [e]; rfl)
        split
        · rename_i he; simp at he; exact absurd he.2.1 hc
        · rename_i he; simp at he; obtain ⟨rfl, rfl⟩ := he; rfl
        · rename_i he; simp at he)
    (fun a b h1 h2 => by
      obtain ⟨N1, h1⟩ := h1
      obtain ⟨N2, h2⟩ := h2
      refine ⟨max N1 N2 + 1, fun n hn r hr => ?_⟩
      obtain ⟨m, rfl⟩ : ∃ m, n = m + 1 := ⟨n - 1, by omega⟩
      have e1 := h1 m (by omega) (62 :: (b.body ++ r)) ⟨fun _ => by simp, fun _ => by simp, fun e => by omega⟩
      have e2 := h2 m (by omega) r hr
      simp only [List.append_assoc, List.cons_append, prs, e1, e2])
    t.enc.length t (Nat.le_refl _) hw).1
  rwa [txt0] at this
theorem body_inj {t u : Fm} (ht : t.wf) (hu : u.wf) (h : t.body = u.body) : t = u := by
  obtain ⟨N1, h1⟩ := prs_all t ht
  obtain ⟨N2, h2⟩ := prs_all u hu
  have e1 := h1 (max N1 N2) (by omega) [] ⟨fun _ => by simp, fun _ => by simp, fun _ => by simp⟩
  have e2 := h2 (max N1 N2) (by omega) [] ⟨fun _ => by simp, fun _ => by simp, fun _ => by simp⟩
  rw [h, e2] at e1
  simp at e1
  exact e1.symm
theorem par_len (b : Bool) (s : List UInt8) : (par b s).length ≤ s.length + 2 := by unfold par; split <;> simp
theorem body_len : ∀ t : Fm, t.body.length + 3 ≤ 5 * t.enc.length := by
  intro t
  induction t with
  | var v => simp [body, enc]
  | fls => simp [body, enc]
  | and a b iha ihb =>
    have h1 := par_len (decide (a.lev < 2)) a.body; have h2 := par_len (decide (b.lev < 3)) b.body
    simp only [body, enc, List.length_append, List.length_cons]; omega
  | or a b iha ihb =>
    have h1 := par_len (decide (a.lev < 1)) a.body; have h2 := par_len (decide (b.lev < 2)) b.body
    simp only [body, enc, List.length_append, List.length_cons]; omega
  | imp a b iha ihb =>
    have h1 := par_len (decide (a.lev < 1)) a.body; have h2 := par_len (decide (a.lev < 3)) a.body
    have hb := enc_pos b
    simp only [body, enc, List.length_append, List.length_cons]
    split
    · split
      · simp; omega
      · simp only [List.length_cons]; omega
    · simp only [List.length_append, List.length_cons]; omega
  | box a iha =>
    have h2 := par_len (decide (a.lev < 3)) a.body
    simp only [body, enc, List.length_cons]; omega
  | dia a iha =>
    have h2 := par_len (decide (a.lev < 3)) a.body
    simp only [body, enc, List.length_cons]; omega
theorem body_pos (t : Fm) : 0 < t.body.length := by
  cases t with
  | imp a b =>
    simp only [body]
    split
    · split <;> simp
    · simp only [List.length_append, List.length_cons]; omega
  | _ => simp only [body, List.length_append, List.length_cons]; omega
/-- no text has a byte below 38 or one of / ; -/
theorem body_bytes : ∀ t : Fm, t.wf → ∀ c ∈ t.body, c ≠ 47 ∧ c ≠ 59 ∧ c ≠ 44 ∧ c ≠ 10 := by
  have hp : ∀ (b : Bool) (s : List UInt8), (∀ c ∈ s, c ≠ 47 ∧ c ≠ 59 ∧ c ≠ 44 ∧ c ≠ 10) → ∀ c ∈ par b s, c ≠ 47 ∧ c ≠ 59 ∧ c ≠ 44 ∧ c ≠ 10 := by
    intro b s h c hc
    unfold par at hc
    split at hc
    · simp at hc
      rcases hc with rfl | hc | rfl
      · decide
      · exact h c hc
      · decide
    · exact h c hc
  intro t
  induction t with
  | var v =>
    intro hw c hc
    simp [body] at hc
    have hv : v = 0 ∨ v = 1 ∨ v = 2 ∨ v = 3 ∨ v = 4 ∨ v = 5 := by simp [wf] at hw; omega
    subst hc
    rcases hv with rfl | rfl | rfl | rfl | rfl | rfl <;> decide
  | fls => intro _ c hc; simp [body] at hc; subst hc; decide
  | and a b iha ihb =>
    intro hw c hc
    simp only [body, List.mem_append, List.mem_cons] at hc
    rcases hc with hc | rfl | hc
    · exact hp _ _ (iha hw.1) c hc
    · decide
    · exact hp _ _ (ihb hw.2) c hc
  | or a b iha ihb =>
    intro hw c hc
    simp only [body, List.mem_append, List.mem_cons] at hc
    rcases hc with hc | rfl | hc
    · exact hp _ _ (iha hw.1) c hc
    · decide
    · exact hp _ _ (ihb hw.2) c hc
  | imp a b iha ihb =>
    intro hw c hc
    simp only [body] at hc
    split at hc
    · split at hc
      · simp at hc; subst hc; decide
      · simp only [List.mem_cons] at hc
        rcases hc with rfl | hc
        · decide
        · exact hp _ _ (iha hw.1) c hc
    · simp only [List.mem_append, List.mem_cons] at hc
      rcases hc with hc | rfl | hc
      · exact hp _ _ (iha hw.1) c hc
      · decide
      · exact ihb hw.2 c hc
  | box a iha =>
    intro hw c hc
    simp only [body, List.mem_cons] at hc
    rcases hc with rfl | rfl | hc
    · decide
    · decide
    · exact hp _ _ (iha hw) c hc
  | dia a iha =>
    intro hw c hc
    simp only [body, List.mem_cons] at hc
    rcases hc with rfl | rfl | hc
    · decide
    · decide
    · exact hp _ _ (iha hw) c hc
end Go.Proofs.YtpbbfoliabgkpaaGreat
/-
  DERIVED: THE SHELF's CONTRACTS AT THIS DUMP, IN PLAIN WORDS (tools/lay-plain.mjs out of 'Shelf.lean', which tools/lay-shelf.mjs wrote): THE SAME DECLARATIONS UNDER THE SAME NAMES: 'import', 'namespace', 'open', 'def', 'theorem' AND NOTHING ELSE: no command of the shelf's: FOR A HAND-IN. Each laying: the table of numbers ('.._ren') and one theorem, a field a fact of the dump's own or the kernel's comparison; each contract: ONE APPLICATION.
-/
namespace Go.Proofs
open Go.Shelf
def Tryz.lays190_ren : Go.Shelf.Ren := ⟨fun | 190 => 181 | 125 => 244 | 258 => 243 | 128 => 285 | 129 => 286 | 302 => 276 | 303 => 277 | 304 => 278 | 305 => 279 | 306 => 280 | 307 => 281 | 308 => 282 | 309 => 283 | 310 => 284 | 333 => 328 | 329 => 329 | 330 => 330 | 334 => 331 | 335 => 332 | 336 => 333 | 344 => 347 | n => n, fun | 31 => 30 | 9 => 9 | 3 => 3 | 46 => 120 | 0 => 0 | 51 => 229 | 53 => 52 | 4 => 4 | 183 => 221 | 182 => 220 | 131 => 226 | 5 => 5 | 218 => 248 | 222 => 252 | 228 => 260 | 229 => 261 | n => n, fun | n => n⟩
theorem Tryz.lays190 : Go.Proofs.Lays.n190 Tryz.prog Tryz.lays190_ren := {
  mixed := by kernel_rfl
  f125 := Tryz.func244.trans (congrArg some (by kernel_rfl))
  f128 := Tryz.func285.trans (congrArg some (by kernel_rfl))
  f129 := Tryz.func286.trans (congrArg some (by kernel_rfl))
  f190 := Tryz.func181.trans (congrArg some (by kernel_rfl))
  f258 := Tryz.func243.trans (congrArg some (by kernel_rfl))
  f302 := Tryz.func276.trans (congrArg some (by kernel_rfl))
  f303 := Tryz.func277.trans (congrArg some (by kernel_rfl))
  f304 := Tryz.func278.trans (congrArg some (by kernel_rfl))
  f305 := Tryz.func279.trans (congrArg some (by kernel_rfl))
  f306 := Tryz.func280.trans (congrArg some (by kernel_rfl))
  f307 := Tryz.func281.trans (congrArg some (by kernel_rfl))
  f308 := Tryz.func282.trans (congrArg some (by kernel_rfl))
  f309 := Tryz.func283.trans (congrArg some (by kernel_rfl))
  f310 := Tryz.func284.trans (congrArg some (by kernel_rfl))
  f329 := Tryz.func329.trans (congrArg some (by kernel_rfl))
  f330 := Tryz.func330.trans (congrArg some (by kernel_rfl))
  f333 := Tryz.func328.trans (congrArg some (by kernel_rfl))
  f334 := Tryz.func331.trans (congrArg some (by kernel_rfl))
  f335 := Tryz.func332.trans (congrArg some (by kernel_rfl))
  f336 := Tryz.func333.trans (congrArg some (by kernel_rfl))
  f344 := Tryz.func347.trans (congrArg some (by kernel_rfl))
  t0 := Tryz.underlying0
  a0 := Tryz.isAgg0
  z0 := Tryz.sizeOf0
  v0 := Tryz.zeroValue0
  t3 := Tryz.underlying3
  a3 := Tryz.isAgg3
  z3 := Tryz.sizeOf3
  v3 := Tryz.zeroValue3
  t4 := Tryz.underlying4
  a4 := Tryz.isAgg4
  z4 := Tryz.sizeOf4
  v4 := Tryz.zeroValue4
  t5 := Tryz.underlying5
  a5 := Tryz.isAgg5
  z5 := Tryz.sizeOf5
  v5 := Tryz.zeroValue5
  t9 := Tryz.underlying9
  a9 := Tryz.isAgg9
  z9 := Tryz.sizeOf9
  v9 := Tryz.zeroValue9
  t31 := Tryz.underlying30
  a31 := Tryz.isAgg30
  z31 := Tryz.sizeOf30
  v31 := Tryz.zeroValue30
  t46 := Tryz.underlying120
  a46 := Tryz.isAgg120
  z46 := Tryz.sizeOf120
  v46 := Tryz.zeroValue120
  t51 := Tryz.underlying229
  a51 := Tryz.isAgg229
  z51 := Tryz.sizeOf229
  v51 := Tryz.zeroValue229
  t53 := Tryz.underlying52
  a53 := Tryz.isAgg52
  z53 := Tryz.sizeOf52
  v53 := Tryz.zeroValue52
  t131 := Tryz.underlying226
  a131 := Tryz.isAgg226
  z131 := Tryz.sizeOf226
  v131 := Tryz.zeroValue226
  t182 := Tryz.underlying220
  a182 := Tryz.isAgg220
  z182 := Tryz.sizeOf220
  v182 := Tryz.zeroValue220
  t183 := Tryz.underlying221
  a183 := Tryz.isAgg221
  z183 := Tryz.sizeOf221
  v183 := Tryz.zeroValue221
  t218 := Tryz.underlying248
  a218 := Tryz.isAgg248
  z218 := Tryz.sizeOf248
  v218 := Tryz.zeroValue248
  t222 := Tryz.underlying252
  a222 := Tryz.isAgg252
  z222 := Tryz.sizeOf252
  v222 := Tryz.zeroValue252
  t228 := Tryz.underlying260
  a228 := Tryz.isAgg260
  z228 := Tryz.sizeOf260
  v228 := Tryz.zeroValue260
  t229 := Tryz.underlying261
  a229 := Tryz.isAgg261
  z229 := Tryz.sizeOf261
  v229 := Tryz.zeroValue261 }
open Go.Sort Go.RowKit in
theorem Tryz.slices_Sort_string (blk off cap : Nat) (ss : List (List UInt8)) (w : World) (hH : Holds encStr w blk off ss.toArray) (hblk : blk < w.heap.size) (hsz : ss.length < 4611686018427387904) :
    Calls Tryz.prog 181 #[.slice (some ⟨blk, off, none⟩) ss.length cap] w fun e w' =>
      e = .returned (.tuple #[]) ∧ ∃ n os, w' = grow (putRow encStr (Sort.ahead w n) blk off (ss.mergeSort fun x y => decide (x ≤ y)).toArray) os := Any.slices_Sort_string Tryz.lays190 blk off cap ss w hH hblk hsz
def Tryz.lays109_ren : Go.Shelf.Ren := ⟨fun | 109 => 338 | n => n, fun | 31 => 30 | 9 => 9 | 3 => 3 | 0 => 0 | 4 => 4 | n => n, fun | n => n⟩
theorem Tryz.lays109 : Go.Proofs.Lays.n109 Tryz.prog Tryz.lays109_ren := {
  mixed := by kernel_rfl
  f109 := Tryz.func338.trans (congrArg some (by kernel_rfl))
  t0 := Tryz.underlying0
  a0 := Tryz.isAgg0
  z0 := Tryz.sizeOf0
  v0 := Tryz.zeroValue0
  t3 := Tryz.underlying3
  a3 := Tryz.isAgg3
  z3 := Tryz.sizeOf3
  v3 := Tryz.zeroValue3
  t4 := Tryz.underlying4
  a4 := Tryz.isAgg4
  z4 := Tryz.sizeOf4
  v4 := Tryz.zeroValue4
  t9 := Tryz.underlying9
  a9 := Tryz.isAgg9
  z9 := Tryz.sizeOf9
  v9 := Tryz.zeroValue9
  t31 := Tryz.underlying30
  a31 := Tryz.isAgg30
  z31 := Tryz.sizeOf30
  v31 := Tryz.zeroValue30 }
open Go.Lib in
/-- slices.Index at []string: "Index returns the index of the first occurrence of v in s, or -1 if not present.": IT RETURNS 'Lib.idxOfS (the elements) v'; the world is as it was. 'zs': what the cells behind the slice's address hold (its spare capacity too, if you have it); 'zs.take n': its elements. (LAID: no walk: one application.) -/
theorem Tryz.slices_Index_string (b off n c : Nat) (zs : List ByteArray) (x : ByteArray) (w : World) (hz : n ≤ zs.length) (hbig : n ≤ 9223372036854775807) (hc : ∀ j, j < zs.length → w.cell? ⟨b, off + j, none⟩ = some (.string (zs.getD j ByteArray.empty))) :
    Calls Tryz.prog 338 #[.slice (some ⟨b, off, none⟩) n c, .string x] w fun e w' => e = .returned (.int .i64 (Lib.idxOfS (zs.take n) x)) ∧ w' = w := Any.slices_Index_string Tryz.lays109 b off n c zs x w hz hbig hc
open Go.Lib in
/-- The same at a slice of length 0, a nil one too: no cell is known, none is asked for. (LAID: no walk: one application.) -/
theorem Tryz.slices_Index_string_empty (a : Option Addr) (c : Nat) (x : ByteArray) (w : World) :
    Calls Tryz.prog 338 #[.slice a 0 c, .string x] w fun e w' => e = .returned (.int .i64 (Lib.idxOfS [] x)) ∧ w' = w := Any.slices_Index_string_empty Tryz.lays109 a c x w
def Tryz.lays110_ren : Go.Shelf.Ren := ⟨fun | 110 => 320 | 109 => 338 | n => n, fun | 31 => 30 | 9 => 9 | 4 => 4 | 3 => 3 | 0 => 0 | n => n, fun | n => n⟩
theorem Tryz.lays110 : Go.Proofs.Lays.n110 Tryz.prog Tryz.lays110_ren := {
  mixed := by kernel_rfl
  f109 := Tryz.func338.trans (congrArg some (by kernel_rfl))
  f110 := Tryz.func320.trans (congrArg some (by kernel_rfl))
  t0 := Tryz.underlying0
  a0 := Tryz.isAgg0
  z0 := Tryz.sizeOf0
  v0 := Tryz.zeroValue0
  t3 := Tryz.underlying3
  a3 := Tryz.isAgg3
  z3 := Tryz.sizeOf3
  v3 := Tryz.zeroValue3
  t4 := Tryz.underlying4
  a4 := Tryz.isAgg4
  z4 := Tryz.sizeOf4
  v4 := Tryz.zeroValue4
  t9 := Tryz.underlying9
  a9 := Tryz.isAgg9
  z9 := Tryz.sizeOf9
  v9 := Tryz.zeroValue9
  t31 := Tryz.underlying30
  a31 := Tryz.isAgg30
  z31 := Tryz.sizeOf30
  v31 := Tryz.zeroValue30 }
open Go.Lib in
/-- slices.Contains at []string: "Contains reports whether v is present in s.": IT RETURNS 'Lib.containsS (the elements) v', which is true just where v is among them ('Lib.containsS_iff'); the world is as it was. ITS CALLEE slices.Index IS MET BY ITS OWN CONTRACT OFF THE SHELF (lay that first): no loop is walked here. (LAID: no walk: one application.) -/
theorem Tryz.slices_Contains_string (b off n c : Nat) (zs : List ByteArray) (x : ByteArray) (w : World) (hz : n ≤ zs.length) (hbig : n ≤ 9223372036854775807) (hc : ∀ j, j < zs.length → w.cell? ⟨b, off + j, none⟩ = some (.string (zs.getD j ByteArray.empty))) :
    Calls Tryz.prog 320 #[.slice (some ⟨b, off, none⟩) n c, .string x] w fun e w' => e = .returned (.bool (Lib.containsS (zs.take n) x)) ∧ w' = w := Any.slices_Contains_string Tryz.lays110 b off n c zs x w hz hbig hc
open Go.Lib in
/-- The same at a slice of length 0, a nil one too. (LAID: no walk: one application.) -/
theorem Tryz.slices_Contains_string_empty (a : Option Addr) (c : Nat) (x : ByteArray) (w : World) :
    Calls Tryz.prog 320 #[.slice a 0 c, .string x] w fun e w' => e = .returned (.bool false) ∧ w' = w := Any.slices_Contains_string_empty Tryz.lays110 a c x w
def Tryz.laysNm216_ren : Go.Shelf.Ren := ⟨fun | 16 => 358 | n => n, fun | 24 => 30 | 9 => 9 | 4 => 4 | n => n, fun | n => n⟩
theorem Tryz.laysNm216 : Go.Proofs.Lays2.n16 Tryz.prog Tryz.laysNm216_ren := {
  mixed := by kernel_rfl
  f16 := Tryz.func358.trans (congrArg some (by kernel_rfl))
  t4 := Tryz.underlying4
  a4 := Tryz.isAgg4
  z4 := Tryz.sizeOf4
  v4 := Tryz.zeroValue4
  t9 := Tryz.underlying9
  a9 := Tryz.isAgg9
  z9 := Tryz.sizeOf9
  v9 := Tryz.zeroValue9
  t24 := Tryz.underlying30
  a24 := Tryz.isAgg30
  z24 := Tryz.sizeOf30
  v24 := Tryz.zeroValue30
  i9 := by kernel_rfl }
open Go.RowKit Go.Lib in
/-- slices.Clone at []string: "Clone returns a copy of the slice. The elements are copied using assignment, so this is a shallow clone. The result may have additional unused capacity. The result preserves the nilness of s.": OF A SLICE THAT IS NOT nil IT RETURNS A SLICE THAT IS NOT nil, OF THE SAME ELEMENTS, IN MEMORY OF THE CALL's OWN: in the how-to's words (6f): 'w'.ownsRow B e 1 v' n cells': v' begins at the head of a row among the blocks from B on (B: the heap's size at the call), not frozen, whose first cells are the elements · 'Below B w w'': below B all is as it was. The capacity is whatever the run-time gives. 'zs': what the cells behind the slice's address hold; 'zs.take n': its elements. (LAID: no walk: one application.) -/
theorem Tryz.slices_Clone_string (b off n c : Nat) (zs : List ByteArray) (w : World) (hz : n ≤ zs.length) (hbig : n * 16 ≤ 140737488355328) (hc : ∀ j, j < zs.length → w.cell? ⟨b, off + j, none⟩ = some (.string (zs.getD j ByteArray.empty))) :
    Calls Tryz.prog 358 #[.slice (some ⟨b, off, none⟩) n c] w fun e w' => ∃ v', e = .returned v' ∧ w'.ownsRow w.heap.size 9 1 v' n ((zs.take n).map (Value.string)) ∧ v' ≠ .slice none 0 0 ∧ Below w.heap.size w w' := Any.slices_Clone_string Tryz.laysNm216 b off n c zs w hz hbig hc
open Go.RowKit Go.Lib in
/-- The same at nil: nil comes back; the world is as it was. (LAID: no walk: one application.) -/
theorem Tryz.slices_Clone_string_nil (n c : Nat) (w : World) :
    Calls Tryz.prog 358 #[.slice none n c] w fun e w' => e = .returned (.slice none 0 0) ∧ w' = w := Any.slices_Clone_string_nil Tryz.laysNm216 n c w
open Go.RowKit Go.Lib in
/-- The same at a slice of length 0 that is not nil, WHATEVER ITS ADDRESS (no cell is asked for): a slice that is not nil and owns nothing comes back. (LAID: no walk: one application.) -/
theorem Tryz.slices_Clone_string_zero (a : Addr) (c : Nat) (w : World) :
    Calls Tryz.prog 358 #[.slice (some a) 0 c] w fun e w' => ∃ v', e = .returned v' ∧ w'.ownsRow w.heap.size 9 1 v' 0 [] ∧ v' ≠ .slice none 0 0 ∧ Below w.heap.size w w' := Any.slices_Clone_string_zero Tryz.laysNm216 a c w
def Tryz.lays194_ren : Go.Shelf.Ren := ⟨fun | 194 => 182 | n => n, fun | 31 => 30 | 9 => 9 | 3 => 3 | 4 => 4 | 0 => 0 | n => n, fun | n => n⟩
theorem Tryz.lays194 : Go.Proofs.Lays.n194 Tryz.prog Tryz.lays194_ren := {
  mixed := by kernel_rfl
  f194 := Tryz.func182.trans (congrArg some (by kernel_rfl))
  t0 := Tryz.underlying0
  a0 := Tryz.isAgg0
  z0 := Tryz.sizeOf0
  v0 := Tryz.zeroValue0
  t3 := Tryz.underlying3
  a3 := Tryz.isAgg3
  z3 := Tryz.sizeOf3
  v3 := Tryz.zeroValue3
  t4 := Tryz.underlying4
  a4 := Tryz.isAgg4
  z4 := Tryz.sizeOf4
  v4 := Tryz.zeroValue4
  t9 := Tryz.underlying9
  a9 := Tryz.isAgg9
  z9 := Tryz.sizeOf9
  v9 := Tryz.zeroValue9
  t31 := Tryz.underlying30
  a31 := Tryz.isAgg30
  z31 := Tryz.sizeOf30
  v31 := Tryz.zeroValue30 }
open Go.RowKit Go.Lib Go.Sort in
/-- slices.Compact at []string, over an array: the library's two loops are walked. (LAID: no walk: one application.) -/
theorem Tryz.slices_Compact_string_arr (blk off cap : Nat) (d : Array (List UInt8)) (w : World) (hH : Holds encStr w blk off d) (hsz : d.size ≤ 9223372036854775807) (hcap : d.size ≤ cap) :
    Calls Tryz.prog 182 #[.slice (some ⟨blk, off, none⟩) d.size cap] w fun e w' => e = .returned (.slice (some ⟨blk, off, none⟩) (compactUpTo d d.size).length cap) ∧ ∃ q, w' = putRow encStr (Sort.ahead w q) blk off (compactUpTo d d.size ++ List.replicate (d.size - (compactUpTo d d.size).length) []).toArray := Any.slices_Compact_string_arr Tryz.lays194 blk off cap d w hH hsz hcap
open Go.RowKit Go.Lib Go.Sort in
/-- slices.Compact at []string: "Compact replaces consecutive runs of equal elements with a single copy. This is like the uniq command found on Unix. Compact modifies the contents of the slice s and returns the modified slice, which may have a smaller length. Compact zeroes the elements between the new length and the original length. The result preserves the nilness of s.": IT RETURNS THE SLICE CUT TO 'Lib.compact zs'; ITS CELLS HOLD 'Lib.compact zs', THEN ZERO VALUES up to the old length; all else is as it was, but for the count of draws. IN THE WORDS OF slices.Sort's CONTRACT ('Holds', 'putRow'): so the everyday 'slices.Sort(xs); xs = slices.Compact(xs)' goes from the one contract to the other. It asks 'zs.length ≤ cap' (every slice's: the reslicing 's[:k]' looks at it). Length 0, nil: '.._empty'. (LAID: no walk: one application.) -/
theorem Tryz.slices_Compact_string (blk off cap : Nat) (zs : List (List UInt8)) (w : World) (hH : Holds encStr w blk off zs.toArray) (hsz : zs.length ≤ 9223372036854775807) (hcap : zs.length ≤ cap) :
    Calls Tryz.prog 182 #[.slice (some ⟨blk, off, none⟩) zs.length cap] w fun e w' => e = .returned (.slice (some ⟨blk, off, none⟩) (Lib.compact zs).length cap) ∧ ∃ q, w' = putRow encStr (Sort.ahead w q) blk off (Lib.compact zs ++ List.replicate (zs.length - (Lib.compact zs).length) []).toArray := Any.slices_Compact_string Tryz.lays194 blk off cap zs w hH hsz hcap
open Go.RowKit Go.Lib Go.Sort in
/-- The same at a slice of length 0, a nil one too: it comes back as it is. (LAID: no walk: one application.) -/
theorem Tryz.slices_Compact_string_empty (a : Option Addr) (cap : Nat) (w : World) :
    Calls Tryz.prog 182 #[.slice a 0 cap] w fun e w' => e = .returned (.slice a 0 cap) ∧ w' = w := Any.slices_Compact_string_empty Tryz.lays194 a cap w
open Go.RowKit Go.Lib Go.Sort in
/-- slices.Compact at []string, of an argument. (LAID: no walk: one application.) -/
theorem Tryz.slices_Compact_string_cells (b off n c : Nat) (Sx : Nat → ByteArray) (w : World) (hbig : n ≤ 9223372036854775807) (hcap : n ≤ c) (hc : ∀ i, i < n → w.cell? ⟨b, off + i, none⟩ = some (.string (Sx i))) (hf : ∀ j, j < n → w.frozen? ⟨b, off + j, none⟩ = false) :
    Calls Tryz.prog 182 #[.slice (some ⟨b, off, none⟩) n c] w fun e w' => e = .returned (.slice (some ⟨b, off, none⟩) (Lib.compact (Lib.strsOf Sx n)).length c) ∧ ∃ q, w' = (w.drewN q).setCells b off ((Lib.compact (Lib.strsOf Sx n) ++ List.replicate (n - (Lib.compact (Lib.strsOf Sx n)).length) []).map encStr) := Any.slices_Compact_string_cells Tryz.lays194 b off n c Sx w hbig hcap hc hf
open Go.RowKit Go.Sort in
/-- .. and plain. (LAID: no walk: one application.) -/
theorem Tryz.slices_Sort_string_none (p : Option Addr) (cap : Nat) (w : World) :
    Calls Tryz.prog 181 #[.slice p 0 cap] w fun e w' => e = .returned (.tuple #[]) ∧ w' = w := Any.slices_Sort_string_none Tryz.lays190 p cap w
def Tryz.laysSlE041_f260_ren : Go.Shelf.Ren := ⟨fun | 41 => 260 | n => n, fun | 22 => 66 | 23 => 2 | 4 => 4 | n => n, fun | n => n⟩
theorem Tryz.laysSlE041_f260 : Go.Proofs.SlLaysE0.n41 Tryz.prog Tryz.laysSlE041_f260_ren := {
  mixed := by kernel_rfl
  f41 := ⟨Tryz.f260.name, by decide, Tryz.func260.trans (congrArg some (by kernel_rfl))⟩
  t4 := Tryz.underlying4
  a4 := Tryz.isAgg4
  z4 := Tryz.sizeOf4
  v4 := Tryz.zeroValue4
  t22 := Tryz.underlying66
  a22 := Tryz.isAgg66
  z22 := Tryz.sizeOf66
  v22 := Tryz.zeroValue66 }
open Go.RowKit Go.Lib in
/-- slices.Clone: "Clone returns a copy of the slice. The elements are copied using assignment, so this is a shallow clone. The result may have additional unused capacity. The result preserves the nilness of s.": OF A SLICE THAT IS NOT nil IT RETURNS A SLICE THAT IS NOT nil, OF THE SAME CELLS, IN MEMORY OF THE CALL's OWN ('ownsRow': the how-to's 6f); below the heap's size at the call all is as it was. (LAID AT THE INSTANCE 'slices.Clone[[]int64,int64]': no walk: one application.) -/
theorem Tryz.slices_Clone_f260 (i0 : TypeInfo) (z : Value) (size bytes : Nat) (hi : Tryz.prog.info? 2 = some i0) (hz0 : i0.zero = some z) (hz1 : i0.size = size) (hz2 : i0.bytes = bytes) (hzs : z.cells.size = size) (hsz : 0 < size) (z23 : ∀ w, (Go.sizeOf 2).run Tryz.prog w = .ok size w) (b off n c : Nat) (news : List Value) (w : World) (hl : news.length = n * size) (hn : n ≤ maxLen) (hbig : n * bytes ≤ 140737488355328) (hc : ∀ j u, news[j]? = some u → w.cell? ⟨b, off + j, none⟩ = some u) (h1 : ∀ u ∈ news, u.oneCell' = true) :
    Calls Tryz.prog 260 #[.slice (some ⟨b, off, none⟩) n c] w fun e w' => ∃ v', e = .returned v' ∧ w'.ownsRow w.heap.size 2 size v' n news ∧ v' ≠ .slice none 0 0 ∧ Below w.heap.size w w' := AnyE.slices_Clone Tryz.laysSlE041_f260 i0 z size bytes hi hz0 hz1 hz2 hzs hsz z23 b off n c news w hl hn hbig hc h1
def Tryz.laysSlE041_f358_ren : Go.Shelf.Ren := ⟨fun | 41 => 358 | n => n, fun | 22 => 30 | 23 => 9 | 4 => 4 | n => n, fun | n => n⟩
theorem Tryz.laysSlE041_f358 : Go.Proofs.SlLaysE0.n41 Tryz.prog Tryz.laysSlE041_f358_ren := {
  mixed := by kernel_rfl
  f41 := ⟨Tryz.f358.name, by decide, Tryz.func358.trans (congrArg some (by kernel_rfl))⟩
  t4 := Tryz.underlying4
  a4 := Tryz.isAgg4
  z4 := Tryz.sizeOf4
  v4 := Tryz.zeroValue4
  t22 := Tryz.underlying30
  a22 := Tryz.isAgg30
  z22 := Tryz.sizeOf30
  v22 := Tryz.zeroValue30 }
open Go.RowKit Go.Lib in
/-- slices.Clone: "Clone returns a copy of the slice. The elements are copied using assignment, so this is a shallow clone. The result may have additional unused capacity. The result preserves the nilness of s.": OF A SLICE THAT IS NOT nil IT RETURNS A SLICE THAT IS NOT nil, OF THE SAME CELLS, IN MEMORY OF THE CALL's OWN ('ownsRow': the how-to's 6f); below the heap's size at the call all is as it was. (LAID AT THE INSTANCE 'slices.Clone[[]string,string]': no walk: one application.) -/
theorem Tryz.slices_Clone_f358 (i0 : TypeInfo) (z : Value) (size bytes : Nat) (hi : Tryz.prog.info? 9 = some i0) (hz0 : i0.zero = some z) (hz1 : i0.size = size) (hz2 : i0.bytes = bytes) (hzs : z.cells.size = size) (hsz : 0 < size) (z23 : ∀ w, (Go.sizeOf 9).run Tryz.prog w = .ok size w) (b off n c : Nat) (news : List Value) (w : World) (hl : news.length = n * size) (hn : n ≤ maxLen) (hbig : n * bytes ≤ 140737488355328) (hc : ∀ j u, news[j]? = some u → w.cell? ⟨b, off + j, none⟩ = some u) (h1 : ∀ u ∈ news, u.oneCell' = true) :
    Calls Tryz.prog 358 #[.slice (some ⟨b, off, none⟩) n c] w fun e w' => ∃ v', e = .returned v' ∧ w'.ownsRow w.heap.size 9 size v' n news ∧ v' ≠ .slice none 0 0 ∧ Below w.heap.size w w' := AnyE.slices_Clone Tryz.laysSlE041_f358 i0 z size bytes hi hz0 hz1 hz2 hzs hsz z23 b off n c news w hl hn hbig hc h1
open Go.RowKit Go.Lib in
/-- The same at nil: nil comes back; the world is as it was; nothing is asked of the element's type. (LAID AT THE INSTANCE 'slices.Clone[[]int64,int64]': no walk: one application.) -/
theorem Tryz.slices_Clone_nil_f260 (n c : Nat) (w : World) :
    Calls Tryz.prog 260 #[.slice none n c] w fun e w' => e = .returned (.slice none 0 0) ∧ w' = w := AnyE.slices_Clone_nil Tryz.laysSlE041_f260 n c w
open Go.RowKit Go.Lib in
/-- The same at nil: nil comes back; the world is as it was; nothing is asked of the element's type. (LAID AT THE INSTANCE 'slices.Clone[[]string,string]': no walk: one application.) -/
theorem Tryz.slices_Clone_nil_f358 (n c : Nat) (w : World) :
    Calls Tryz.prog 358 #[.slice none n c] w fun e w' => e = .returned (.slice none 0 0) ∧ w' = w := AnyE.slices_Clone_nil Tryz.laysSlE041_f358 n c w
end Go.Proofs
/- slices.Contains at []string, off the shelf. -/
namespace Go.Proofs.YtpbbfoliabgkpaaGreat
open Go.RowKit
open scoped Classical in
theorem containsS_any (ss : List ByteArray) (x : ByteArray) (v : Value) (w : World) (hv : Strs w v ss) :
    Calls Tryz.prog 320 #[v, .string x] w fun e w' => e = .returned (.bool (decide (x ∈ ss))) ∧ w = w' := by
  obtain ⟨p, cap, rfl, h1, h2, hat, h3⟩ := hv.at
  have hd : decide (x ∈ ss) = Lib.containsS (ss.take ss.length) x := by
    rw [List.take_length, Bool.eq_iff_iff, Lib.containsS_iff]
    exact decide_eq_true_iff
  by_cases h0 : ss.length = 0
  · obtain rfl : ss = [] := List.eq_nil_of_length_eq_zero h0
    refine (Tryz.slices_Contains_string_empty p cap x w).mono ?_
    rintro e w' ⟨rfl, rfl⟩
    exact ⟨by simp, rfl⟩
  · obtain ⟨b, off, rfl, _⟩ := hat 0 (by simp [strCells]; omega)
    have hc : ∀ j, j < ss.length → w.cell? ⟨b, off + j, none⟩ = some (.string (ss.getD j ByteArray.empty)) := by
      intro j hj
      obtain ⟨b', off', hp, hc⟩ := hat j (by simpa [strCells] using hj)
      cases hp
      rw [hc]
      simp [strCells, List.getD_eq_getElem?_getD, hj]
    refine (Tryz.slices_Contains_string b off ss.length cap ss x w (Nat.le_refl _) (by omega) hc).mono ?_
    rintro e w' ⟨rfl, rfl⟩
    exact ⟨by rw [hd], rfl⟩
theorem txt_mem {ss : List ByteArray} {G : List Fm} {x : ByteArray} {t : Fm} (h : Txts ss G) (hx : bts x = t.body) (hw : t.wf) (hG : ∀ a ∈ G, a.wf) : x ∈ ss ↔ t ∈ G := by
  constructor
  · intro hm
    have h1 : bts x ∈ ss.map bts := List.mem_map.2 ⟨x, hm, rfl⟩
    rw [h, List.mem_map] at h1
    obtain ⟨a, ha, e⟩ := h1
    rw [hx] at e
    rwa [← body_inj (hG a ha) hw e]
  · intro hm
    have h1 : t.body ∈ G.map Fm.body := List.mem_map.2 ⟨t, hm, rfl⟩
    rw [← h, List.mem_map] at h1
    obtain ⟨y, hy, e⟩ := h1
    rwa [← bts_inj (e.trans hx.symm)]
open scoped Classical in
/-- slices.Contains at texts of formulas -/
theorem containsF_any (ss : List ByteArray) (G : List Fm) (h : Txts ss G) (hG : ∀ a ∈ G, a.wf) (x : ByteArray) (t : Fm) (hx : bts x = t.body) (hw : t.wf) (v : Value) (w : World) (hv : Strs w v ss) :
    Calls Tryz.prog 320 #[v, .string x] w fun e w' => e = .returned (.bool (decide (t ∈ G))) ∧ w = w' := by
  refine (containsS_any ss x v w hv).mono ?_
  rintro e w' ⟨rfl, rfl⟩
  exact ⟨ret_bool (by rw [Bool.eq_iff_iff, decide_eq_true_iff, decide_eq_true_iff]; exact txt_mem h hx hw hG), rfl⟩
end Go.Proofs.YtpbbfoliabgkpaaGreat
