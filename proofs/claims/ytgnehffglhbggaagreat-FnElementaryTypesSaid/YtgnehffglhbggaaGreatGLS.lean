/- Walks: chains, forks and Medvedev's posets on both sides. -/
import Derived.Test.YtgnehffglhbggaaGreatGQ1
import Derived.Test.YtgnehffglhbggaaGreatGL2
import Derived.Deep.RegionLaw
import Derived.Test.YtgnehffglhbggaaGreatGM2
import Derived.Test.YtgnehffglhbggaaGreatGSU
import Derived.Deep.RegionHeld3
namespace Go.Proofs.YtgnehffglhbggaaGreat
open Go.RowKit

def andNot (a b : Int) : Int := bits .andNot .i64 a b
def chainL (n : Nat) : Nat → List Int
  | 0 => []
  | k + 1 => chainL n k ++ [andNot (2 ^ n - 1) (2 ^ k - 1)]
theorem chainL_length (n k : Nat) : (chainL n k).length = k := by
  induction k with
  | zero => rfl
  | succ k ih => simp [chainL, ih]
end Go.Proofs.YtgnehffglhbggaaGreat
/- Walks: the posets on both sides, and their laws. -/
namespace Go.Proofs.YtgnehffglhbggaaGreat
open Go.RowKit

/-- a poset and an error come back -/
def RetPE (w : World) (a : List Int) (c : Int) (e : Ending) (w' : World) : Prop := ∃ v, e = .returned (.tuple #[.agg #[.int .i64 a.length, v], .int .i64 c]) ∧ OwnI w' w.heap.size v a ∧ Keeps w w'
end Go.Proofs.YtgnehffglhbggaaGreat
/- Walks: the laws' own measures, copies, comparisons and marks of number lists, posets, frames and models. -/
namespace Go.Proofs.YtgnehffglhbggaaGreat
open Go.RowKit

theorem Ints.shape {w : World} {v : Value} {a : List Int} (h : Ints w v a) : ∃ p n c, v = .slice p n c := by obtain ⟨p, c, e, _⟩ := h; exact ⟨p, _, c, e⟩
theorem OwnI.shape0 {w : World} {B : Nat} {v : Value} {a : List Int} (h : OwnI w B v a) : ∃ p n c, v = .slice p n c := by obtain ⟨p, c, e, _⟩ := At.of_own h; exact ⟨p, _, c, e⟩
theorem OwnI.touch {w w' : World} {S : Nat → Prop} {B : Nat} {v : Value} {a : List Int} (h : OwnI w B v a) (k : Touch w w' S) (hS : ∀ i, v.ownBlock = some i → ¬ S i) : OwnI w' B v a := own_touch h k hS
/-- two rows that lie apart -/
def Sep (va vb : Value) : Prop := ∀ k, va.ownBlock = some k → vb.ownBlock ≠ some k
theorem Sep.of {w1 w2 : World} {B1 B2 : Nat} {va vb : Value} {a b : List Int} (h1 : OwnI w1 B1 va a) (h2 : OwnI w2 B2 vb b) (h : w1.heap.size ≤ B2) : Sep va vb := fun k e1 e2 => by
  have := h1.len k e1; have := h2.len k e2; omega
/-- the row of a slice alone is touched -/
def TouchR (w w' : World) (v : Value) : Prop := Touch w w' (fun i => some i = v.ownBlock)
theorem OwnI.low {w w' : World} {B : Nat} {v : Value} {x : List Int} (h : OwnI w B v x) (k : Low w w' B) : OwnI w' B v x := h.touch k (fun i hi => by have := (h.len i hi).1; omega)
theorem OwnI.lowOf {w0 w : World} {B : Nat} {v : Value} {x : List Int} (h : OwnI w0 B v x) (k : Keeps w0 w) : Low w0 w B := by have _ := h; exact Low.of k B
theorem cell_own {w w' : World} {b o : Nat} {v u : Value} (h : w.cell? ⟨b, o, none⟩ = some v) (k : Touch w w' (fun i => some i = u.ownBlock)) (hb : some b ≠ u.ownBlock) : w'.cell? ⟨b, o, none⟩ = some v := by
  rw [(k.cell (World.block_lt_of_cell? _ _ h) (fun e => hb e)).1]; exact h
--
theorem markI_o (a : List Int) (v : Value) (k0 : Int) (w : World) (B : Nat) (hv : OwnI w B v a) (hl : a.length ≤ 2147483648) (hk0 : 0 ≤ k0) (hk1 : k0 ≤ 4294967296) :
    Calls Tryz.prog 16 #[v, .int .i64 k0] w fun e w' => e = .returned (.int .i64 (k0 + a.length)) ∧ OwnI w' B v (marksI a.length k0) ∧ Touch w w' (fun i => some i = v.ownBlock) := by
  refine (markInt64S_any a v k0 w B hv hl hk0 hk1).mono ?_
  rintro e w' ⟨rfl, ho, g⟩
  exact ⟨rfl, ho, Touch.grown g⟩
theorem markI_t (a : List Int) (v : Value) (k0 : Int) (w0 w : World) (B : Nat) (hv : OwnI w0 B v a) (k : Low w0 w B) (hl : a.length ≤ 2147483648) (hk0 : 0 ≤ k0) (hk1 : k0 ≤ 4294967296) :
    Calls Tryz.prog 16 #[v, .int .i64 k0] w fun e w' => e = .returned (.int .i64 (k0 + a.length)) ∧ OwnI w' B v (marksI a.length k0) ∧ Touch w w' (fun i => B ≤ i ∧ i < w0.heap.size) := by
  have hlen := hv.len
  refine (markInt64S_any a v k0 w B (hv.low k) hl hk0 hk1).mono ?_
  rintro e w' ⟨rfl, ho, g⟩
  exact ⟨rfl, ho, (Touch.grown g).mono (fun i hi => hlen i hi.symm)⟩
end Go.Proofs.YtgnehffglhbggaaGreat
/- Walks: the laws' own comparisons and marks of lists of strings. -/
namespace Go.Proofs.YtgnehffglhbggaaGreat
open Go.RowKit
--
/-- the digits of a number ahead of a text -/
def digA : Nat → Nat → ByteArray → ByteArray
  | 0, _, s => s
  | f + 1, m, s => if m = 0 then s else digA f (m / 10) (⟨#[UInt8.ofNat (48 + m % 10)]⟩ ++ s)
def mkT (k : Int) : ByteArray := ⟨#[109]⟩ ++ digA 20 k.toNat ⟨#[]⟩
theorem byte_tab : ∀ m : Fin 10, ((UInt8.ofNat (48 + (m : Nat))).toNat : Int) = 48 + ((m : Nat) : Int) := by decide +kernel
theorem mod_tab : ∀ m : Fin 10, IntKind.u8.wrap (48 + ((m : Nat) : Int)) = 48 + ((m : Nat) : Int) := by decide +kernel
theorem digA_zero (f : Nat) (s : ByteArray) : digA f 0 s = s := by cases f <;> rfl
theorem digA_more (f m : Nat) (s : ByteArray) (h : 0 < m) : digA (f + 1) m s = digA f (m / 10) (⟨#[UInt8.ofNat (48 + m % 10)]⟩ ++ s) := by
  rw [digA, if_neg (by omega)]
set_option maxRecDepth 20000 in
set_option maxHeartbeats 1000000 in
theorem markText_any (k : Int) (w : World) (h0 : 0 < k) (h1 : k ≤ 4294967296) :
    Calls Tryz.prog 53 #[.int .i64 k] w fun e w' => e = .returned (.string (mkT k)) ∧ Keeps w w' := by
  obtain ⟨n, rfl⟩ := Int.eq_ofNat_of_zero_le (show 0 ≤ k by omega)
  have HK : Hid (mkT (n : Int) = ⟨#[109]⟩ ++ digA 20 n ⟨#[]⟩) := hid rfl
  go_enter Tryz.func53, Tryz.ntmps53
  go_wp2
  go_loopw [0, 3] (fun m' s' wr => ∃ (f m : Nat) (s : ByteArray), m < 10 ^ f ∧ f ≤ 20 ∧ m ≤ n ∧ s.size + f ≤ 20 ∧ m' = .int .i64 m ∧ s' = .string s ∧ digA 20 n ⟨#[]⟩ = digA f m s ∧ Keeps w wr) (fun m' _ _ => (intOf m').toNat)
  case atStart => exact ⟨20, n, ⟨#[]⟩, by omega, by omega, Nat.le_refl _, (by show 0 + 20 ≤ 20; omega), rfl, rfl, rfl, Keeps.refl _⟩
  case round =>
    obtain ⟨f, m, s, hm, hf, hmn, hs, rfl, rfl, hd, kw⟩ := hrel
    have HD := hid hd; clear hd
    by_cases hp : 0 < m
    · have hp' : (m : Int) > 0 := by omega
      obtain ⟨f, rfl⟩ : ∃ f', f = f' + 1 := by
        cases f with
        | zero => omega
        | succ f => exact ⟨f, rfl⟩
      have hlt : m / 10 < 10 ^ f := by rw [Nat.pow_succ] at hm; omega
      have e1 := mod_tab ⟨m % 10, Nat.mod_lt _ (by omega)⟩
      have e2 := byte_tab ⟨m % 10, Nat.mod_lt _ (by omega)⟩
      simp only at e1 e2
      have e3 : ((m % 10 : Nat) : Int) = (m : Int) % 10 := by omega
      rw [e3] at e1 e2
      have hcv : (convert 50 9 (.slice (some ⟨wr.heap.size, 0, none⟩) 1 1)).run Tryz.prog (wr.alloc (.cells #[.int .u8 (48 + (m : Int) % 10)] 5)) = .ok (.string ⟨#[UInt8.ofNat (48 + m % 10)]⟩) (wr.alloc (.cells #[.int .u8 (48 + (m : Int) % 10)] 5)) :=
        run_convert_bytes_back _ _ _ _ _ 1 [UInt8.ofNat (48 + m % 10)] Tryz.underlying50 Tryz.underlying5 Tryz.underlying9 (fun j hj => by
          obtain rfl : j = 0 := by simpa using hj
          rw [List.getElem_cons_zero, e2]
          simp [Addr.add])
      have HM := hid (digA_more f m s hp)
      have hsz : (⟨#[UInt8.ofNat (48 + m % 10)]⟩ : ByteArray).size = 1 := rfl
      have hsz2 : ((⟨#[UInt8.ofNat (48 + m % 10)]⟩ : ByteArray) ++ s).size = 1 + s.size := by rw [ByteArray.size_append, hsz]
      have HZ := hid hsz2; clear hsz2
      have k2 := kw.alloc (.cells #[.int .u8 (48 + (m : Int) % 10)] 5)
      clear hm e2 e3
      generalize (⟨#[UInt8.ofNat (48 + m % 10)]⟩ : ByteArray) = c at *
      go_wp2
      go_roundw
      case rel => exact ⟨f, m / 10, c ++ s, hlt, by omega, by omega, by have := HZ.out; omega, by first | rfl | (congr 1; omega), rfl, by rw [HD.out, HM.out], k2⟩
      case measure => simp [intOf]; omega
    · have hp' : ¬ (m : Int) > 0 := by omega
      have hm0 : m = 0 := by omega
      have HE : Hid (mkT (n : Int) = ⟨#[109]⟩ ++ s) := hid (by rw [HK.out, HD.out, hm0, digA_zero])
      clear hm0
      clear HD HK hm
      go_wp2
      go_ret
      exact ⟨by rw [HE.out]; rfl, kw⟩
--
set_option maxHeartbeats 400000 in
theorem eqStringS_same (a : List ByteArray) (va vb : Value) (w : World) (hva : Strs w va a) (hvb : Strs w vb a) :
    Calls Tryz.prog 22 #[va, vb] w fun e w' => e = .returned (.bool true) ∧ Keeps w w' := by
  obtain ⟨pa, ca, rfl, hlea, hmxa, hlena⟩ := hva.shape
  obtain ⟨pb, cb, rfl, hleb, hmxb, hlenb⟩ := hvb.shape
  unfold maxLen at hmxa hmxb
  have HA := hid hva; clear hva
  have HB := hid hvb; clear hvb
  have hl' : ((a.length : Int) != (a.length : Int)) = false := by simp
  go_enter Tryz.func22, Tryz.ntmps22
  go_wp2
  go_loopw [4, 5] (fun r i' wr => ∃ k : Nat, k ≤ a.length ∧ Keeps w wr ∧ i' = .int .i64 k ∧ r = .bool false) (fun _ i _ => a.length - (intOf i).toNat)
  case atStart => exact ⟨0, by omega, Keeps.refl w, rfl, rfl⟩
  case round =>
    obtain ⟨k, hk, kw, rfl, rfl⟩ := hrel
    clear hl'
    by_cases hlt : k < a.length
    · obtain ⟨b1, o1, rfl, h1⟩ := (HA.out.keeps kw).get k hlt
      obtain ⟨b2, o2, rfl, h2⟩ := (HB.out.keeps kw).get k hlt
      have hlt' : (k : Int) < a.length := by omega
      generalize a[k] = x at *
      have hd : (x.toList != x.toList) = false := by simp
      go_wp2_with fail
      go_quiet (fail)
      go_wp2
      go_roundw
      case rel => exact ⟨k + 1, by omega, kw.drewN _, by go_num, rfl⟩
      case measure => simp [intOf]; omega
    · have hlt' : ¬ (k : Int) < a.length := by omega
      go_wp2
      go_ret
      exact ⟨rfl, kw⟩
theorem OwnS.shape0 {w : World} {B : Nat} {v : Value} {a : List ByteArray} (h : OwnS w B v a) : ∃ p n c, v = .slice p n c := by obtain ⟨p, c, e, _⟩ := At.of_own h; exact ⟨p, _, c, e⟩
theorem OwnS.shape {w : World} {B : Nat} {v : Value} {a : List ByteArray} (h : OwnS w B v a) (hne : 0 < a.length) : ∃ g cap, v = .slice (some ⟨g, 0, none⟩) a.length cap ∧ B ≤ g ∧ a.length ≤ cap ∧ cap ≤ maxLen := by
  obtain ⟨hl, ⟨_, h0⟩ | ⟨g, cap, cur, rfl, hb, hg, hn, hm, hs, ht⟩⟩ := h
  · omega
  · exact ⟨g, cap, rfl, hb, hn, hm⟩
theorem Strs.shape0 {w : World} {v : Value} {a : List ByteArray} (h : Strs w v a) : ∃ p n c, v = .slice p n c := by obtain ⟨p, c, e, _⟩ := h.shape; exact ⟨p, _, c, e⟩
theorem OwnS.touch {w w' : World} {S : Nat → Prop} {B : Nat} {v : Value} {a : List ByteArray} (h : OwnS w B v a) (k : Touch w w' S) (hS : ∀ i, v.ownBlock = some i → ¬ S i) : OwnS w' B v a := own_touch h k hS
theorem OwnS.low {w w' : World} {B : Nat} {v : Value} {x : List ByteArray} (h : OwnS w B v x) (k : Low w w' B) : OwnS w' B v x := h.touch k (fun i hi => by have := (h.len i hi).1; omega)
theorem OwnS.lowOf {w0 w : World} {B : Nat} {v : Value} {x : List ByteArray} (h : OwnS w0 B v x) (k : Keeps w0 w) : Low w0 w B := by have _ := h; exact Low.of k B
theorem grown_keepsS {w w1 w2 : World} {row : Option Nat} (h : w.grownBy w1 row) (k : Keeps w1 w2) : w.grownBy w2 row :=
  ⟨k.os.trans h.os, k.tape.trans h.tape, k.output.trans h.output, Nat.le_trans h.size k.size, fun i hi hr => (k.block (Nat.lt_of_lt_of_le hi h.size)).trans (h.block i hi hr)⟩
--
def marksS (n : Nat) (k : Int) : List ByteArray := (marksI n k).map mkT
theorem marksS_length (n : Nat) (k : Int) : (marksS n k).length = n := by simp [marksS, marksI_length]
theorem marksS_succ (n : Nat) (k : Int) : marksS (n + 1) k = marksS n k ++ [mkT (k + n)] := by simp [marksS, marksI_succ]
theorem marksS_get (n : Nat) (k : Int) (i : Nat) (h : i < (marksS n k).length) : (marksS n k)[i] = mkT (k + i) := by simp [marksS, marksI_get]
set_option maxRecDepth 20000 in
set_option maxHeartbeats 1000000 in
theorem markStringS_any (a : List ByteArray) (v : Value) (k0 : Int) (w : World) (B : Nat) (hv : OwnS w B v a) (hl : a.length ≤ 1000000000) (hk0 : 0 < k0) (hk1 : k0 ≤ 1000000000) :
    Calls Tryz.prog 23 #[v, .int .i64 k0] w fun e w' => e = .returned (.int .i64 (k0 + a.length)) ∧ OwnS w' B v (marksS a.length k0) ∧ w.grownBy w' v.ownBlock := by
  have hdist : a = [] ∨ 0 < a.length := by cases a with
    | nil => exact .inl rfl
    | cons x l => right; simp
  rcases hdist with rfl | hpos
  · obtain ⟨p, cap, rfl, _, _, _⟩ := At.of_own hv
    go_enter Tryz.func23, Tryz.ntmps23
    go_wp2
    refine wp_loop_once ?_
    go_wp2
    go_ret
    exact ⟨by simp, hv, grown_refl _ _⟩
  · obtain ⟨g, cap, rfl, hB, hle, hmx⟩ := hv.shape hpos
    unfold maxLen at hmx
    go_enter Tryz.func23, Tryz.ntmps23
    go_wp2
    go_loopw [1, 5] (fun c i' wr => ∃ (k : Nat) (xs : List ByteArray), k ≤ a.length ∧ i' = .int .i64 k ∧ c = .int .i64 (k0 + k) ∧ xs.length = a.length ∧ xs.take k = marksS k k0 ∧ OwnS wr B (.slice (some ⟨g, 0, none⟩) a.length cap) xs ∧ w.grownBy wr (some g)) (fun _ i _ => a.length - (intOf i).toNat)
    case atStart => exact ⟨0, a, by omega, rfl, by simp, rfl, by simp [marksS, marksI], hv, grown_refl _ _⟩
    case round =>
      obtain ⟨k, xs, hk, rfl, rfl, hxl, htk, hownk, hgr⟩ := hrel
      have HX := hid hxl; clear hxl
      have HT := hid htk; clear htk
      clear hv
      by_cases hlt : k < a.length
      · have hltx : k < xs.length := by have := HX.out; omega
        have hlt' : (k : Int) < a.length := by omega
        have HC := hid (markText_any (k0 + k) wr (by omega) (by omega))
        have HO := hid hownk; clear hownk
        generalize hmt : mkT (k0 + k) = mt at *
        have HMT := hid hmt; clear hmt
        go_wp2_with fail
        refine HC.out.mono ?_; rintro e w2 ⟨rfl, k2⟩
        have ho2 := HO.out.keeps k2
        have hcell := OwnS.cellAt (a := xs) (by rw [HX.out]; exact ho2) (List.getElem?_eq_getElem hltx)
        obtain ⟨c1, c3⟩ := hcell
        have h3 := (OwnS.store (a := xs) (by rw [HX.out]; exact ho2) k mt)
        rw [HX.out] at h3
        have H3 := hid h3; clear h3
        have hgr2 := grown_keepsS hgr k2
        have HG := hid hgr2; clear hgr2 ho2
        go_wp2_with fail
        go_roundw
        case rel =>
          refine ⟨k + 1, _, by omega, by go_num, by go_num, ?_, ?_, H3.out.1, ?_⟩
          · rw [List.length_set]; exact HX.out
          · rw [List.take_succ_eq_append_getElem (by rw [List.length_set]; exact hltx), List.take_set_of_le (Nat.le_refl _), List.getElem_set_self, HT.out, marksS_succ, HMT.out]
          · exact grown_trans HG.out H3.out.2
        case measure => simp [intOf]; omega
      · have hlt' : ¬ (k : Int) < a.length := by omega
        go_wp2
        go_ret
        obtain rfl : k = a.length := by omega
        have hx : xs = marksS a.length k0 := by
          have h1 := HX.out; have h2 := HT.out
          rw [List.take_of_length_le (by omega)] at h2
          exact h2
        subst hx
        exact ⟨rfl, hownk, hgr⟩
--
set_option maxRecDepth 20000 in
set_option maxHeartbeats 1000000 in
theorem heldStringS_any (n : Nat) (v : Value) (k0 : Int) (w : World) (hv : Strs w v (marksS n k0)) (hk0 : 0 < k0) (hk1 : k0 ≤ 1000000000) (hn1 : n ≤ 1000000000) :
    Calls Tryz.prog 24 #[v, .int .i64 k0] w fun e w' => e = .returned (.int .i64 (k0 + n)) ∧ Keeps w w' := by
  have hn : (marksS n k0).length = n := marksS_length n k0
  have hg := marksS_get n k0
  generalize marksS n k0 = a at *
  subst hn
  obtain ⟨p, cap, rfl, hle, hmx, hlen⟩ := hv.shape
  unfold maxLen at hmx
  have HV := hid hv; clear hv
  have HG := hid hg; clear hg
  go_enter Tryz.func24, Tryz.ntmps24
  go_wp2
  go_loopw [1, 4, 5] (fun c r i' wr => ∃ k : Nat, k ≤ a.length ∧ i' = .int .i64 k ∧ c = .int .i64 (k0 + k) ∧ r = .int .i64 0 ∧ Keeps w wr) (fun _ _ i _ => a.length - (intOf i).toNat)
  case atStart => exact ⟨0, by omega, rfl, by simp, rfl, Keeps.refl _⟩
  case round =>
    obtain ⟨k, hk, rfl, rfl, rfl, kw⟩ := hrel
    by_cases hlt : k < a.length
    · have hlt' : (k : Int) < a.length := by omega
      have kd := (Keeps.refl wr).drew
      obtain ⟨b, off, rfl, h1⟩ := (HV.out.keeps (kw.trans kd)).get k hlt
      rw [HG.out k hlt] at h1
      have HC := hid (markText_any (k0 + k) wr.drew (by omega) (by omega))
      generalize mkT (k0 + k) = mt at *
      have hd : (mt.toList != mt.toList) = false := by simp
      go_wp2_with fail
      go_region_held3 (fun w' => w'.cell? ⟨b, off + k, none⟩ = some (.string mt)) (first | exact h1 | exact y1) (first | (go_at_call 53; refine HC.out.mono ?_; rintro e w2 ⟨rfl, k2⟩; have y1 := k2.cell h1))
      go_wp2_with fail
      go_roundw
      case rel => exact ⟨k + 1, by omega, by go_num, by go_num, rfl, (kw.trans kd).trans k2⟩
      case measure => simp [intOf]; omega
    · have hlt' : ¬ (k : Int) < a.length := by omega
      go_wp2
      go_ret
      exact ⟨ret_int (by omega), kw⟩
--
theorem markS_o (a : List ByteArray) (v : Value) (k0 : Int) (w : World) (B : Nat) (hv : OwnS w B v a) (hl : a.length ≤ 1000000000) (hk0 : 0 < k0) (hk1 : k0 ≤ 1000000000) :
    Calls Tryz.prog 23 #[v, .int .i64 k0] w fun e w' => e = .returned (.int .i64 (k0 + a.length)) ∧ OwnS w' B v (marksS a.length k0) ∧ Touch w w' (fun i => some i = v.ownBlock) := by
  refine (markStringS_any a v k0 w B hv hl hk0 hk1).mono ?_
  rintro e w' ⟨rfl, ho, g⟩
  exact ⟨rfl, ho, Touch.grown g⟩
theorem markS_t (a : List ByteArray) (v : Value) (k0 : Int) (w0 w : World) (B : Nat) (hv : OwnS w0 B v a) (k : Low w0 w B) (hl : a.length ≤ 1000000000) (hk0 : 0 < k0) (hk1 : k0 ≤ 1000000000) :
    Calls Tryz.prog 23 #[v, .int .i64 k0] w fun e w' => e = .returned (.int .i64 (k0 + a.length)) ∧ OwnS w' B v (marksS a.length k0) ∧ Touch w w' (fun i => B ≤ i ∧ i < w0.heap.size) := by
  have hlen := hv.len
  refine (markStringS_any a v k0 w B (hv.low k) hl hk0 hk1).mono ?_
  rintro e w' ⟨rfl, ho, g⟩
  exact ⟨rfl, ho, (Touch.grown g).mono (fun i hi => hlen i hi.symm)⟩
end Go.Proofs.YtgnehffglhbggaaGreat
