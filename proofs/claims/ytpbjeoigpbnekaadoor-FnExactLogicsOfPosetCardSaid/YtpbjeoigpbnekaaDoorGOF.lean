/- Walks: the laws' own comparisons and marks of lists of strings. -/
import Derived.Test.YtpbjeoigpbnekaaDoorGVC0
import Derived.Test.YtpbjeoigpbnekaaDoorGLO
import Derived.Deep.RegionHeld3
import Derived.Test.YtpbjeoigpbnekaaDoorGQA
import Derived.Test.YtpbjeoigpbnekaaDoorGOD
namespace Go.Proofs.YtpbjeoigpbnekaaDoor
open Go.RowKit
--
/-- the digits of a number ahead of a text -/
def digA : Nat → Nat → ByteArray → ByteArray
  | 0, _, s => s
  | f + 1, m, s => if m = 0 then s else digA f (m / 10) (⟨#[UInt8.ofNat (48 + m % 10)]⟩ ++ s)
def mkT (k : Int) : ByteArray := ⟨#[109]⟩ ++ digA 20 k.toNat ⟨#[]⟩
theorem byte_tab : ∀ m : Fin 10, ((UInt8.ofNat (48 + (m : Nat))).toNat : Int) = 48 + ((m : Nat) : Int) := by decide +kernel
theorem mod_tab : ∀ m : Fin 10, IntKind.u8.wrap (48 + ((m : Nat) : Int)) = 48 + ((m : Nat) : Int) := by decide +kernel
theorem digA_zero (f : Nat) (s : ByteArray) : digA f 0 s = s := by cases f <;> rfl
theorem digA_more (f m : Nat) (s : ByteArray) (h : 0 < m) : digA (f + 1) m s = digA f (m / 10) (⟨#[UInt8.ofNat (48 + m % 10)]⟩ ++ s) := by
  rw [digA, if_neg (by omega)]
set_option maxRecDepth 20000 in
set_option maxHeartbeats 1000000 in
theorem markText_any (k : Int) (w : World) (h0 : 0 < k) (h1 : k ≤ 4294967296) :
    Calls Tryd.prog 28 #[.int .i64 k] w fun e w' => e = .returned (.string (mkT k)) ∧ Keeps w w' := by
  obtain ⟨n, rfl⟩ := Int.eq_ofNat_of_zero_le (show 0 ≤ k by omega)
  have HK : Hid (mkT (n : Int) = ⟨#[109]⟩ ++ digA 20 n ⟨#[]⟩) := hid rfl
  go_enter Tryd.func28, Tryd.ntmps28
  go_wp2
  go_loopw [0, 3] (fun m' s' wr => ∃ (f m : Nat) (s : ByteArray), m < 10 ^ f ∧ f ≤ 20 ∧ m ≤ n ∧ s.size + f ≤ 20 ∧ m' = .int .i64 m ∧ s' = .string s ∧ digA 20 n ⟨#[]⟩ = digA f m s ∧ Keeps w wr) (fun m' _ _ => (intOf m').toNat)
  case atStart => exact ⟨20, n, ⟨#[]⟩, by omega, by omega, Nat.le_refl _, (by show 0 + 20 ≤ 20; omega), rfl, rfl, rfl, Keeps.refl _⟩
  case round =>
    obtain ⟨f, m, s, hm, hf, hmn, hs, rfl, rfl, hd, kw⟩ := hrel
    have HD := hid hd; clear hd
    by_cases hp : 0 < m
    · have hp' : (m : Int) > 0 := by omega
      obtain ⟨f, rfl⟩ : ∃ f', f = f' + 1 := by
        cases f with
        | zero => omega
        | succ f => exact ⟨f, rfl⟩
      have hlt : m / 10 < 10 ^ f := by rw [Nat.pow_succ] at hm; omega
      have e1 := mod_tab ⟨m % 10, Nat.mod_lt _ (by omega)⟩
      have e2 := byte_tab ⟨m % 10, Nat.mod_lt _ (by omega)⟩
      simp only at e1 e2
      have e3 : ((m % 10 : Nat) : Int) = (m : Int) % 10 := by omega
      rw [e3] at e1 e2
      have hcv : (convert 67 9 (.slice (some ⟨wr.heap.size, 0, none⟩) 1 1)).run Tryd.prog (wr.alloc (.cells #[.int .u8 (48 + (m : Int) % 10)] 5)) = .ok (.string ⟨#[UInt8.ofNat (48 + m % 10)]⟩) (wr.alloc (.cells #[.int .u8 (48 + (m : Int) % 10)] 5)) :=
        run_convert_bytes_back _ _ _ _ _ 1 [UInt8.ofNat (48 + m % 10)] Tryd.underlying67 Tryd.underlying5 Tryd.underlying9 (fun j hj => by
          obtain rfl : j = 0 := by simpa using hj
          rw [List.getElem_cons_zero, e2]
          simp [Addr.add])
      have HM := hid (digA_more f m s hp)
      have hsz : (⟨#[UInt8.ofNat (48 + m % 10)]⟩ : ByteArray).size = 1 := rfl
      have hsz2 : ((⟨#[UInt8.ofNat (48 + m % 10)]⟩ : ByteArray) ++ s).size = 1 + s.size := by rw [ByteArray.size_append, hsz]
      have HZ := hid hsz2; clear hsz2
      have k2 := kw.alloc (.cells #[.int .u8 (48 + (m : Int) % 10)] 5)
      clear hm e2 e3
      generalize (⟨#[UInt8.ofNat (48 + m % 10)]⟩ : ByteArray) = c at *
      go_wp2
      go_roundw
      case rel => exact ⟨f, m / 10, c ++ s, hlt, by omega, by omega, by have := HZ.out; omega, by first | rfl | (congr 1; omega), rfl, by rw [HD.out, HM.out], k2⟩
      case measure => simp [intOf]; omega
    · have hp' : ¬ (m : Int) > 0 := by omega
      have hm0 : m = 0 := by omega
      have HE : Hid (mkT (n : Int) = ⟨#[109]⟩ ++ s) := hid (by rw [HK.out, HD.out, hm0, digA_zero])
      clear hm0
      clear HD HK hm
      go_wp2
      go_ret
      exact ⟨by rw [HE.out]; rfl, kw⟩
--
set_option maxHeartbeats 400000 in
theorem eqStringS_same (a : List ByteArray) (va vb : Value) (w : World) (hva : Strs w va a) (hvb : Strs w vb a) :
    Calls Tryd.prog 12 #[va, vb] w fun e w' => e = .returned (.bool true) ∧ Keeps w w' := by
  obtain ⟨pa, ca, rfl, hlea, hmxa, hlena⟩ := hva.shape
  obtain ⟨pb, cb, rfl, hleb, hmxb, hlenb⟩ := hvb.shape
  unfold maxLen at hmxa hmxb
  have HA := hid hva; clear hva
  have HB := hid hvb; clear hvb
  have hl' : ((a.length : Int) != (a.length : Int)) = false := by simp
  go_enter Tryd.func12, Tryd.ntmps12
  go_wp2
  go_loopw [4, 5] (fun r i' wr => ∃ k : Nat, k ≤ a.length ∧ Keeps w wr ∧ i' = .int .i64 k ∧ r = .bool false) (fun _ i _ => a.length - (intOf i).toNat)
  case atStart => exact ⟨0, by omega, Keeps.refl w, rfl, rfl⟩
  case round =>
    obtain ⟨k, hk, kw, rfl, rfl⟩ := hrel
    clear hl'
    by_cases hlt : k < a.length
    · obtain ⟨b1, o1, rfl, h1⟩ := (HA.out.keeps kw).get k hlt
      obtain ⟨b2, o2, rfl, h2⟩ := (HB.out.keeps kw).get k hlt
      have hlt' : (k : Int) < a.length := by omega
      generalize a[k] = x at *
      have hd : (x.toList != x.toList) = false := by simp
      go_wp2_with fail
      go_quiet (fail)
      go_wp2
      go_roundw
      case rel => exact ⟨k + 1, by omega, kw.drewN _, by go_num, rfl⟩
      case measure => simp [intOf]; omega
    · have hlt' : ¬ (k : Int) < a.length := by omega
      go_wp2
      go_ret
      exact ⟨rfl, kw⟩
theorem OwnS.shape0 {w : World} {B : Nat} {v : Value} {a : List ByteArray} (h : OwnS w B v a) : ∃ p n c, v = .slice p n c := by obtain ⟨p, c, e, _⟩ := At.of_own h; exact ⟨p, _, c, e⟩
theorem OwnS.shape {w : World} {B : Nat} {v : Value} {a : List ByteArray} (h : OwnS w B v a) (hne : 0 < a.length) : ∃ g cap, v = .slice (some ⟨g, 0, none⟩) a.length cap ∧ B ≤ g ∧ a.length ≤ cap ∧ cap ≤ maxLen := by
  obtain ⟨hl, ⟨_, h0⟩ | ⟨g, cap, cur, rfl, hb, hg, hn, hm, hs, ht⟩⟩ := h
  · omega
  · exact ⟨g, cap, rfl, hb, hn, hm⟩
theorem Strs.shape0 {w : World} {v : Value} {a : List ByteArray} (h : Strs w v a) : ∃ p n c, v = .slice p n c := by obtain ⟨p, c, e, _⟩ := h.shape; exact ⟨p, _, c, e⟩
theorem OwnS.touch {w w' : World} {S : Nat → Prop} {B : Nat} {v : Value} {a : List ByteArray} (h : OwnS w B v a) (k : Touch w w' S) (hS : ∀ i, v.ownBlock = some i → ¬ S i) : OwnS w' B v a := own_touch h k hS
theorem OwnS.low {w w' : World} {B : Nat} {v : Value} {x : List ByteArray} (h : OwnS w B v x) (k : Low w w' B) : OwnS w' B v x := h.touch k (fun i hi => by have := (h.len i hi).1; omega)
theorem OwnS.lowOf {w0 w : World} {B : Nat} {v : Value} {x : List ByteArray} (h : OwnS w0 B v x) (k : Keeps w0 w) : Low w0 w B := by have _ := h; exact Low.of k B
theorem grown_keepsS {w w1 w2 : World} {row : Option Nat} (h : w.grownBy w1 row) (k : Keeps w1 w2) : w.grownBy w2 row :=
  ⟨k.os.trans h.os, k.tape.trans h.tape, k.output.trans h.output, Nat.le_trans h.size k.size, fun i hi hr => (k.block (Nat.lt_of_lt_of_le hi h.size)).trans (h.block i hi hr)⟩
--
def marksS (n : Nat) (k : Int) : List ByteArray := (marksI n k).map mkT
theorem marksS_length (n : Nat) (k : Int) : (marksS n k).length = n := by simp [marksS, marksI_length]
theorem marksS_succ (n : Nat) (k : Int) : marksS (n + 1) k = marksS n k ++ [mkT (k + n)] := by simp [marksS, marksI_succ]
theorem marksS_get (n : Nat) (k : Int) (i : Nat) (h : i < (marksS n k).length) : (marksS n k)[i] = mkT (k + i) := by simp [marksS, marksI_get]
set_option maxRecDepth 20000 in
set_option maxHeartbeats 1000000 in
theorem markStringS_any (a : List ByteArray) (v : Value) (k0 : Int) (w : World) (B : Nat) (hv : OwnS w B v a) (hl : a.length ≤ 1000000000) (hk0 : 0 < k0) (hk1 : k0 ≤ 1000000000) :
    Calls Tryd.prog 14 #[v, .int .i64 k0] w fun e w' => e = .returned (.int .i64 (k0 + a.length)) ∧ OwnS w' B v (marksS a.length k0) ∧ w.grownBy w' v.ownBlock := by
  have hdist : a = [] ∨ 0 < a.length := by cases a with
    | nil => exact .inl rfl
    | cons x l => right; simp
  rcases hdist with rfl | hpos
  · obtain ⟨p, cap, rfl, _, _, _⟩ := At.of_own hv
    go_enter Tryd.func14, Tryd.ntmps14
    go_wp2
    refine wp_loop_once ?_
    go_wp2
    go_ret
    exact ⟨by simp, hv, grown_refl _ _⟩
  · obtain ⟨g, cap, rfl, hB, hle, hmx⟩ := hv.shape hpos
    unfold maxLen at hmx
    go_enter Tryd.func14, Tryd.ntmps14
    go_wp2
    go_loopw [1, 5] (fun c i' wr => ∃ (k : Nat) (xs : List ByteArray), k ≤ a.length ∧ i' = .int .i64 k ∧ c = .int .i64 (k0 + k) ∧ xs.length = a.length ∧ xs.take k = marksS k k0 ∧ OwnS wr B (.slice (some ⟨g, 0, none⟩) a.length cap) xs ∧ w.grownBy wr (some g)) (fun _ i _ => a.length - (intOf i).toNat)
    case atStart => exact ⟨0, a, by omega, rfl, by simp, rfl, by simp [marksS, marksI], hv, grown_refl _ _⟩
    case round =>
      obtain ⟨k, xs, hk, rfl, rfl, hxl, htk, hownk, hgr⟩ := hrel
      have HX := hid hxl; clear hxl
      have HT := hid htk; clear htk
      clear hv
      by_cases hlt : k < a.length
      · have hltx : k < xs.length := by have := HX.out; omega
        have hlt' : (k : Int) < a.length := by omega
        have HC := hid (markText_any (k0 + k) wr (by omega) (by omega))
        have HO := hid hownk; clear hownk
        generalize hmt : mkT (k0 + k) = mt at *
        have HMT := hid hmt; clear hmt
        go_wp2_with fail
        refine HC.out.mono ?_; rintro e w2 ⟨rfl, k2⟩
        have ho2 := HO.out.keeps k2
        have hcell := OwnS.cellAt (a := xs) (by rw [HX.out]; exact ho2) (List.getElem?_eq_getElem hltx)
        obtain ⟨c1, c3⟩ := hcell
        have h3 := (OwnS.store (a := xs) (by rw [HX.out]; exact ho2) k mt)
        rw [HX.out] at h3
        have H3 := hid h3; clear h3
        have hgr2 := grown_keepsS hgr k2
        have HG := hid hgr2; clear hgr2 ho2
        go_wp2_with fail
        go_roundw
        case rel =>
          refine ⟨k + 1, _, by omega, by go_num, by go_num, ?_, ?_, H3.out.1, ?_⟩
          · rw [List.length_set]; exact HX.out
          · rw [List.take_succ_eq_append_getElem (by rw [List.length_set]; exact hltx), List.take_set_of_le (Nat.le_refl _), List.getElem_set_self, HT.out, marksS_succ, HMT.out]
          · exact grown_trans HG.out H3.out.2
        case measure => simp [intOf]; omega
      · have hlt' : ¬ (k : Int) < a.length := by omega
        go_wp2
        go_ret
        obtain rfl : k = a.length := by omega
        have hx : xs = marksS a.length k0 := by
          have h1 := HX.out; have h2 := HT.out
          rw [List.take_of_length_le (by omega)] at h2
          exact h2
        subst hx
        exact ⟨rfl, hownk, hgr⟩
--
set_option maxRecDepth 20000 in
set_option maxHeartbeats 1000000 in
theorem heldStringS_any (n : Nat) (v : Value) (k0 : Int) (w : World) (hv : Strs w v (marksS n k0)) (hk0 : 0 < k0) (hk1 : k0 ≤ 1000000000) (hn1 : n ≤ 1000000000) :
    Calls Tryd.prog 15 #[v, .int .i64 k0] w fun e w' => e = .returned (.int .i64 (k0 + n)) ∧ Keeps w w' := by
  have hn : (marksS n k0).length = n := marksS_length n k0
  have hg := marksS_get n k0
  generalize marksS n k0 = a at *
  subst hn
  obtain ⟨p, cap, rfl, hle, hmx, hlen⟩ := hv.shape
  unfold maxLen at hmx
  have HV := hid hv; clear hv
  have HG := hid hg; clear hg
  go_enter Tryd.func15, Tryd.ntmps15
  go_wp2
  go_loopw [1, 4, 5] (fun c r i' wr => ∃ k : Nat, k ≤ a.length ∧ i' = .int .i64 k ∧ c = .int .i64 (k0 + k) ∧ r = .int .i64 0 ∧ Keeps w wr) (fun _ _ i _ => a.length - (intOf i).toNat)
  case atStart => exact ⟨0, by omega, rfl, by simp, rfl, Keeps.refl _⟩
  case round =>
    obtain ⟨k, hk, rfl, rfl, rfl, kw⟩ := hrel
    by_cases hlt : k < a.length
    · have hlt' : (k : Int) < a.length := by omega
      have kd := (Keeps.refl wr).drew
      obtain ⟨b, off, rfl, h1⟩ := (HV.out.keeps (kw.trans kd)).get k hlt
      rw [HG.out k hlt] at h1
      have HC := hid (markText_any (k0 + k) wr.drew (by omega) (by omega))
      generalize mkT (k0 + k) = mt at *
      have hd : (mt.toList != mt.toList) = false := by simp
      go_wp2_with fail
      go_region_held3 (fun w' => w'.cell? ⟨b, off + k, none⟩ = some (.string mt)) (first | exact h1 | exact y1) (first | (go_at_call 28; refine HC.out.mono ?_; rintro e w2 ⟨rfl, k2⟩; have y1 := k2.cell h1))
      go_wp2_with fail
      go_roundw
      case rel => exact ⟨k + 1, by omega, by go_num, by go_num, rfl, (kw.trans kd).trans k2⟩
      case measure => simp [intOf]; omega
    · have hlt' : ¬ (k : Int) < a.length := by omega
      go_wp2
      go_ret
      exact ⟨ret_int (by omega), kw⟩
--
theorem markS_o (a : List ByteArray) (v : Value) (k0 : Int) (w : World) (B : Nat) (hv : OwnS w B v a) (hl : a.length ≤ 1000000000) (hk0 : 0 < k0) (hk1 : k0 ≤ 1000000000) :
    Calls Tryd.prog 14 #[v, .int .i64 k0] w fun e w' => e = .returned (.int .i64 (k0 + a.length)) ∧ OwnS w' B v (marksS a.length k0) ∧ Touch w w' (fun i => some i = v.ownBlock) := by
  refine (markStringS_any a v k0 w B hv hl hk0 hk1).mono ?_
  rintro e w' ⟨rfl, ho, g⟩
  exact ⟨rfl, ho, Touch.grown g⟩
theorem markS_t (a : List ByteArray) (v : Value) (k0 : Int) (w0 w : World) (B : Nat) (hv : OwnS w0 B v a) (k : Low w0 w B) (hl : a.length ≤ 1000000000) (hk0 : 0 < k0) (hk1 : k0 ≤ 1000000000) :
    Calls Tryd.prog 14 #[v, .int .i64 k0] w fun e w' => e = .returned (.int .i64 (k0 + a.length)) ∧ OwnS w' B v (marksS a.length k0) ∧ Touch w w' (fun i => B ≤ i ∧ i < w0.heap.size) := by
  have hlen := hv.len
  refine (markStringS_any a v k0 w B (hv.low k) hl hk0 hk1).mono ?_
  rintro e w' ⟨rfl, ho, g⟩
  exact ⟨rfl, ho, (Touch.grown g).mono (fun i hi => hlen i hi.symm)⟩
end Go.Proofs.YtpbjeoigpbnekaaDoor
/- The law of LogicsOfPoset. -/
namespace Go.Proofs.YtpbjeoigpbnekaaDoor
open Go.RowKit
--
set_option maxRecDepth 20000 in
set_option maxHeartbeats 8000000 in
theorem lawLogicsOfPoset (n0 : Int) (a0 : List Int) (v0 : Value) (x0 : List ByteArray) (code : Int) (hrl : x0.length ≤ 1000) (hs : ∀ (v0' : Value) (w : World), Ints w v0' a0 → LaidS 0 names9 w → Calls Tryd.prog 10 #[.agg #[.int .i64 n0, v0']] w (fun e w' => ∃ r0a, e = .returned (.tuple #[r0a, .int .i64 code]) ∧ Strs w' r0a x0 ∧ Keeps w w')) (hi : ∀ (v0' : Value) (w : World), Ints w v0' a0 → LaidS 0 names9 w → Calls Tryd.prog 11 #[.agg #[.int .i64 n0, v0']] w (fun e w' => ∃ r0a, e = .returned (.tuple #[r0a, .int .i64 code]) ∧ OwnS w' w.heap.size r0a x0 ∧ Keeps w w')) (w : World) (hv0 : Ints w v0 a0) (hsum : a0.length ≤ 1048576) (hL : LaidS 0 names9 w) :
    Calls Tryd.prog 4 #[.agg #[.int .i64 n0, v0]] w fun e w' => e = .returned (.bool true) ∧ Keeps w w' := by
  have HS := hid hs; clear hs
  have HI := hid hi; clear hi
  obtain ⟨v0p, v0m, v0q, rfl⟩ := hv0.shape
  obtain ⟨hn, hxv0⟩ : v0m = a0.length ∧ v0m ≤ maxLen := by obtain ⟨_, _, e, h1, h2, _⟩ := hv0; cases e; exact ⟨rfl, by omega⟩
  subst hn
  have kP : Keeps w (w.alloc (.cells #[.int .i64 n0, .slice v0p a0.length v0q] 24)) := ((Keeps.refl w).alloc (.cells #[.int .i64 n0, .slice v0p a0.length v0q] 24))
  have pc00 : (w.alloc (.cells #[.int .i64 n0, .slice v0p a0.length v0q] 24)).cell? ⟨w.heap.size, 0, none⟩ = some (.int .i64 n0) := by simp
  have pc01 : (w.alloc (.cells #[.int .i64 n0, .slice v0p a0.length v0q] 24)).cell? ⟨w.heap.size, 1, none⟩ = some (.slice v0p a0.length v0q) := by simp
  replace hv0 := hv0.keeps kP
  replace hL := hL.keeps kP
  have kW := Keeps.refl (w.alloc (.cells #[.int .i64 n0, .slice v0p a0.length v0q] 24))
  have HL := hid hL; clear hL
  go_enter Tryd.func4, Tryd.ntmps4
  have qc0 := kW.cell pc00
  have qc1 := kW.cell pc01
  go_wp2_with fail
  refine (szPoset_any n0 v0p a0.length v0q (1048576) _ hxv0 (by omega) (by omega)).mono ?_; rintro e w1 ⟨rfl, kw1⟩
  replace kW := kW.trans kw1
  rw [if_neg (by omega)]
  clear qc0 qc1
  have hp0 : (0 : Int) ≤ 1048576 - (a0.length : Int) := by omega
  clear hxv0
  have qc0 := kW.cell pc00
  have qc1 := kW.cell pc01
  go_wp2_with fail
  refine (toPoset_any n0 a0 _ _ (hv0.keeps kW)).mono ?_; rintro e w2 ⟨s0a, rfl, hs0, kw2⟩
  replace kW := kW.trans kw2
  clear qc0 qc1
  have kS0 := Keeps.refl w2
  go_wp2_with fail
  refine (HS.out _ _ ((hs0.keeps kS0).ints (by omega)) (HL.out.keeps kW)).mono ?_; rintro e w3 ⟨f0a, rfl, hf0a, kw3⟩
  replace kW := kW.trans kw3
  replace kS0 := kS0.trans kw3
  clear hs0 kS0
  obtain ⟨f0ap, f0am, f0aq, rfl⟩ := hf0a.shape0
  have kS := Keeps.refl w3
  have nWx0 := kW.size
  have nSx0 := kS.size
  have qc0 := kW.cell pc00
  have qc1 := kW.cell pc01
  go_wp2_with fail
  refine (toPoset_any n0 a0 _ _ (hv0.keeps kW)).mono ?_; rintro e w4 ⟨x0a, rfl, hx0, kw4⟩
  replace kW := kW.trans kw4
  replace kS := kS.trans kw4
  clear qc0 qc1
  have kX0 := Keeps.refl w4
  obtain ⟨x0ap, x0am, x0aq, rfl⟩ := hx0.shape0
  have kb := (Keeps.refl w4).alloc (.cells #[.int .i64 n0, .slice x0ap x0am x0aq] 28)
  replace kW := kW.trans kb
  replace kS := kS.trans kb
  replace kX0 := kX0.trans kb
  have xc00 : (w4.alloc (.cells #[.int .i64 n0, .slice x0ap x0am x0aq] 28)).cell? ⟨w4.heap.size, 0, none⟩ = some (.int .i64 n0) := by simp
  have xc01 : (w4.alloc (.cells #[.int .i64 n0, .slice x0ap x0am x0aq] 28)).cell? ⟨w4.heap.size, 1, none⟩ = some (.slice x0ap x0am x0aq) := by simp
  have kB0 := Keeps.refl (w4.alloc (.cells #[.int .i64 n0, .slice x0ap x0am x0aq] 28))
  clear kb
  have nWg := kW.size
  have nSg := kS.size
  have nX0g := kX0.size
  have yc00 := kB0.cell xc00
  have yc01 := kB0.cell xc01
  go_wp2_with fail
  refine (HI.out _ _ ((hx0.keeps kX0).ints (by omega)) (HL.out.keeps kW)).mono ?_; rintro e w5 ⟨g0a, rfl, hg0, kw5⟩
  replace kW := kW.trans kw5
  replace kS := kS.trans kw5
  replace kX0 := kX0.trans kw5
  replace kB0 := kB0.trans kw5
  clear yc00 yc01
  obtain ⟨g0ap, g0am, g0aq, rfl⟩ := hg0.shape0
  have nWh := kW.size
  have nSh := kS.size
  have nX0h := kX0.size
  have kG := Keeps.refl w5
  have kB := Keeps.refl w5
  go_wp2_with fail
  refine (eqStringS_same x0 _ _ _ ((hg0.keeps kG).strs (by omega)) (hf0a.keeps kS)).mono ?_; rintro e w6 ⟨rfl, kw6⟩
  replace kW := kW.trans kw6
  replace kS := kS.trans kw6
  replace kX0 := kX0.trans kw6
  replace kB0 := kB0.trans kw6
  replace kG := kG.trans kw6
  replace kB := kB.trans kw6
  go_wp2_with fail
  have kd := (Keeps.refl w6).drew
  replace kW := kW.trans kd
  replace kS := kS.trans kd
  replace kX0 := kX0.trans kd
  replace kB0 := kB0.trans kd
  replace kG := kG.trans kd
  replace kB := kB.trans kd
  have ya0 := kB0.cell xc00
  have ya1 := kB0.cell xc01
  have qc0 := kW.cell pc00
  have qc1 := kW.cell pc01
  have HR := hid (toPoset_any n0 a0 _ _ (hv0.keeps kW))
  have HQ := hid (fun (w' : World) (k' : Keeps w6.drew w') v h1 => eqPoset_same n0 a0 _ v w' ((hx0.keeps (kX0.trans k')).ints (by omega)) h1)
  go_region_held3 (fun w' => w'.cell? ⟨w4.heap.size, 0, none⟩ = some (.int .i64 n0) ∧ w'.cell? ⟨w4.heap.size, 1, none⟩ = some (.slice x0ap x0am x0aq) ∧ w'.cell? ⟨w.heap.size, 0, none⟩ = some (.int .i64 n0) ∧ w'.cell? ⟨w.heap.size, 1, none⟩ = some (.slice v0p a0.length v0q)) (first | exact ⟨ya0, ya1, qc0, qc1⟩ | exact ⟨za0, za1, oc0, oc1⟩ | exact ⟨ta0, ta1, va0, va1⟩) (first | (go_at_call 7; refine HR.out.mono ?_; rintro e w7 ⟨ra, rfl, hr0, kw7⟩; have za0 := kw7.cell ya0; have za1 := kw7.cell ya1; have oc0 := kw7.cell qc0; have oc1 := kw7.cell qc1) | (go_at_call 9; refine (HQ.out w7 kw7 _ (hr0.ints (by omega))).mono ?_; rintro e w8 ⟨rfl, kw8⟩; have ta0 := kw8.cell za0; have ta1 := kw8.cell za1; have va0 := kw8.cell oc0; have va1 := kw8.cell oc1))
  replace kW := kW.trans (kw7.trans kw8)
  replace kS := kS.trans (kw7.trans kw8)
  replace kX0 := kX0.trans (kw7.trans kw8)
  replace kB0 := kB0.trans (kw7.trans kw8)
  replace kG := kG.trans (kw7.trans kw8)
  replace kB := kB.trans (kw7.trans kw8)
  clear HR HQ hr0 ya0 qc0 za0 oc0 ta0 va0 ya1 qc1 za1 oc1 ta1 va1
  have kL0 := hx0.lowOf kX0
  clear kX0
  have kGL := hg0.lowOf kG
  clear kG
  replace xc00 := kB0.cell xc00
  replace xc01 := kB0.cell xc01
  clear kB0
  clear kB
  have yc0 := xc00
  have yc1 := xc01
  go_wp2_with fail
  refine (markP_t n0 a0 _ (1) _ _ _ hx0 kL0 (by omega) (by omega) (by omega)).mono ?_; rintro e w9 ⟨rfl, _, tw9⟩
  clear yc0 yc1
  replace kW := kW.touched tw9 (by first | omega | (simp at *; omega))
  replace kS := kS.touched tw9 (by first | omega | (simp at *; omega))
  replace kGL := kGL.touch tw9 (fun i hi => by first | omega | (simp at *; omega))
  clear hx0 kL0 tw9 xc00 xc01
  have hm0' : (0 : Int) ≤ 1 + (a0.length : Int) := by omega
  have kB := Keeps.refl w9
  go_wp2_with fail
  refine (eqStringS_same x0 _ _ _ ((hg0.low (kGL.keeps kB)).strs (by omega)) (hf0a.keeps kS)).mono ?_; rintro e w10 ⟨rfl, kw10⟩
  replace kW := kW.trans kw10
  replace kS := kS.trans kw10
  replace kB := kB.trans kw10
  replace kGL := kGL.keeps kB
  clear kB
  go_wp2_with fail
  refine (markS_t x0 _ 1 _ _ _ hg0 kGL (by omega) (by omega) (by omega)).mono ?_; rintro e w11 ⟨rfl, hM0, tw11⟩
  replace kW := kW.touched tw11 (by first | omega | (simp at *; omega))
  replace kS := kS.touched tw11 (by first | omega | (simp at *; omega))
  clear hg0 kGL
  have kM := Keeps.refl w11
  go_wp2_with fail
  refine (heldStringS_any x0.length _ (1) _ ((hM0.keeps kM).strs (by rw [marksS_length]; omega)) (by omega) (by omega) (by omega)).mono ?_; rintro e w12 ⟨rfl, kw12⟩
  replace kW := kW.trans kw12
  replace kS := kS.trans kw12
  replace kM := kM.trans kw12
  have qc0 := kW.cell pc00
  have qc1 := kW.cell pc01
  go_wp2_with fail
  refine (toPoset_any n0 a0 _ _ (hv0.keeps kW)).mono ?_; rintro e w13 ⟨e0a, rfl, he0, kw13⟩
  replace kW := kW.trans kw13
  replace kS := kS.trans kw13
  replace kM := kM.trans kw13
  clear qc0 qc1
  have kZ0 := Keeps.refl w13
  go_wp2_with fail
  refine (HI.out _ _ ((he0.keeps kZ0).ints (by omega)) (HL.out.keeps kW)).mono ?_; rintro e w14 ⟨h0a, rfl, hh0, kw14⟩
  replace kW := kW.trans kw14
  replace kS := kS.trans kw14
  replace kM := kM.trans kw14
  replace kZ0 := kZ0.trans kw14
  clear he0 kZ0
  obtain ⟨h0ap, h0am, h0aq, rfl⟩ := hh0.shape0
  have kH := Keeps.refl w14
  go_wp2_with fail
  refine (eqStringS_same x0 _ _ _ ((hh0.keeps kH).strs (by omega)) (hf0a.keeps kS)).mono ?_; rintro e w15 ⟨rfl, kw15⟩
  replace kW := kW.trans kw15
  replace kS := kS.trans kw15
  replace kM := kM.trans kw15
  replace kH := kH.trans kw15
  go_wp2_with fail
  refine (heldStringS_any x0.length _ (1) _ ((hM0.keeps kM).strs (by rw [marksS_length]; omega)) (by omega) (by omega) (by omega)).mono ?_; rintro e w16 ⟨rfl, kw16⟩
  replace kW := kW.trans kw16
  replace kS := kS.trans kw16
  replace kM := kM.trans kw16
  replace kH := kH.trans kw16
  go_wp2_with fail
  go_ret
  exact ⟨rfl, kP.trans kW⟩
--
set_option maxRecDepth 20000 in
set_option maxHeartbeats 1000000 in
theorem lawLogicsOfPosetBig (n0 : Int) (vp0 : Option Addr) (vm0 vq0 : Nat) (w : World) (hv0 : vm0 ≤ maxLen) (hb : ¬ (vm0 ≤ 1048576)) :
    Calls Tryd.prog 4 #[.agg #[.int .i64 n0, .slice vp0 vm0 vq0]] w fun e w' => e = .returned (.bool true) ∧ Keeps w w' := by
  have kP : Keeps w (w.alloc (.cells #[.int .i64 n0, .slice vp0 vm0 vq0] 24)) := ((Keeps.refl w).alloc (.cells #[.int .i64 n0, .slice vp0 vm0 vq0] 24))
  have hlt : (1048576 : Int) < vm0 := by omega
  clear hb
  go_enter Tryd.func4, Tryd.ntmps4
  go_wp2_with fail
  refine (szPoset_any n0 vp0 vm0 vq0 (1048576) _ hv0 (by omega) (by omega)).mono ?_; rintro e w' ⟨rfl, kw⟩
  rw [if_pos (by omega)]
  go_wp2_with fail
  go_ret
  exact ⟨rfl, kP.trans kw⟩
end Go.Proofs.YtpbjeoigpbnekaaDoor
/- LogicsOfPoset: both sides. -/
namespace Go.Proofs.YtpbjeoigpbnekaaDoor
open Go.RowKit
/-- the logics of an order -/
def logL (b : List Nat) : List ByteArray := ((List.range 9).filter (ofK b)).map nameK
theorem findS_data (name : ByteArray) : findS names9 name = idxOf (fun s => s.data.toList == name.data.toList) names9 0 := by
  unfold findS; congr 1; funext s; rw [ByteArray.toList_eq, ByteArray.toList_eq]
theorem find9_tab : ∀ k : Fin 9, idxOf (fun s => s.data.toList == (nameK k).data.toList) names9 0 = ((k : Nat) : Int) := by decide +kernel
theorem find9_at {k : Nat} (hk : k < 9) : findS names9 (nameK k) = k := by rw [findS_data]; exact find9_tab ⟨k, hk⟩
theorem names9_map : names9 = (List.range 9).map nameK := rfl
/-- the closure's answer -/
def dropQ (b : List Nat) (x : ByteArray) : Bool := !ofK b (findS names9 x).toNat
theorem dropQ_at (b : List Nat) {k : Nat} (hk : k < 9) : dropQ b (nameK k) = !ofK b k := by unfold dropQ; rw [find9_at hk]; rfl
theorem logL_eq (b : List Nat) : (names9.filter fun x => !dropQ b x) = logL b := by
  unfold logL
  rw [names9_map, List.filter_map]
  congr 1
  apply List.filter_congr
  intro k hk
  show (!dropQ b (nameK k)) = _
  rw [dropQ_at b (List.mem_range.1 hk), Bool.not_not]
theorem logL_len (b : List Nat) : (logL b).length ≤ 9 := by
  unfold logL
  rw [List.length_map]
  exact Nat.le_trans (List.length_filter_le _ _) (by simp)
def logT (b : List Nat) (k : Nat) : List ByteArray := ((List.range k).filter (ofK b)).map nameK
theorem logT_succ (b : List Nat) (k : Nat) : logT b (k + 1) = if ofK b k then logT b k ++ [nameK k] else logT b k := by
  unfold logT
  rw [List.range_succ, List.filter_append]
  by_cases h : ofK b k <;> simp [h]
theorem logT_len (b : List Nat) (k : Nat) : (logT b k).length ≤ k := by
  unfold logT
  rw [List.length_map]
  exact Nat.le_trans (List.length_filter_le _ _) (by simp)
theorem nameK_mem {x : ByteArray} (h : x ∈ names9) : ∃ k, k < 9 ∧ x = nameK k := by
  rw [names9_map] at h
  obtain ⟨k, hk, rfl⟩ := List.mem_map.1 h
  exact ⟨k, List.mem_range.1 hk, rfl⟩
/-- a fresh list of strings -/
def RetSS (w : World) (r : List ByteArray) (e : Ending) (w' : World) : Prop := ∃ v, e = .returned v ∧ OwnS w' w.heap.size v r ∧ Keeps w w'
--
theorem namesIx (i : Nat) (w : World) (hi : i < 9) : (Instr.index 60 (.agg #[.string ⟨#[66, 68, 50]⟩, .string ⟨#[66, 68, 51]⟩, .string ⟨#[66, 87, 50]⟩, .string ⟨#[66, 87, 51]⟩, .string ⟨#[67, 76]⟩, .string ⟨#[73, 110, 116]⟩, .string ⟨#[75, 67]⟩, .string ⟨#[76, 67]⟩, .string ⟨#[83, 109, 76]⟩]) (.int .i64 i)).run Tryd.prog w = .ok (.string (nameK i)) w := by
  have e0 : (Instr.index 60 (.agg #[.string ⟨#[66, 68, 50]⟩, .string ⟨#[66, 68, 51]⟩, .string ⟨#[66, 87, 50]⟩, .string ⟨#[66, 87, 51]⟩, .string ⟨#[67, 76]⟩, .string ⟨#[73, 110, 116]⟩, .string ⟨#[75, 67]⟩, .string ⟨#[76, 67]⟩, .string ⟨#[83, 109, 76]⟩]) (.int .i64 0)).run Tryd.prog w = .ok (.string ⟨#[66, 68, 50]⟩) w := by kernel_rfl
  have e1 : (Instr.index 60 (.agg #[.string ⟨#[66, 68, 50]⟩, .string ⟨#[66, 68, 51]⟩, .string ⟨#[66, 87, 50]⟩, .string ⟨#[66, 87, 51]⟩, .string ⟨#[67, 76]⟩, .string ⟨#[73, 110, 116]⟩, .string ⟨#[75, 67]⟩, .string ⟨#[76, 67]⟩, .string ⟨#[83, 109, 76]⟩]) (.int .i64 1)).run Tryd.prog w = .ok (.string ⟨#[66, 68, 51]⟩) w := by kernel_rfl
  have e2 : (Instr.index 60 (.agg #[.string ⟨#[66, 68, 50]⟩, .string ⟨#[66, 68, 51]⟩, .string ⟨#[66, 87, 50]⟩, .string ⟨#[66, 87, 51]⟩, .string ⟨#[67, 76]⟩, .string ⟨#[73, 110, 116]⟩, .string ⟨#[75, 67]⟩, .string ⟨#[76, 67]⟩, .string ⟨#[83, 109, 76]⟩]) (.int .i64 2)).run Tryd.prog w = .ok (.string ⟨#[66, 87, 50]⟩) w := by kernel_rfl
  have e3 : (Instr.index 60 (.agg #[.string ⟨#[66, 68, 50]⟩, .string ⟨#[66, 68, 51]⟩, .string ⟨#[66, 87, 50]⟩, .string ⟨#[66, 87, 51]⟩, .string ⟨#[67, 76]⟩, .string ⟨#[73, 110, 116]⟩, .string ⟨#[75, 67]⟩, .string ⟨#[76, 67]⟩, .string ⟨#[83, 109, 76]⟩]) (.int .i64 3)).run Tryd.prog w = .ok (.string ⟨#[66, 87, 51]⟩) w := by kernel_rfl
  have e4 : (Instr.index 60 (.agg #[.string ⟨#[66, 68, 50]⟩, .string ⟨#[66, 68, 51]⟩, .string ⟨#[66, 87, 50]⟩, .string ⟨#[66, 87, 51]⟩, .string ⟨#[67, 76]⟩, .string ⟨#[73, 110, 116]⟩, .string ⟨#[75, 67]⟩, .string ⟨#[76, 67]⟩, .string ⟨#[83, 109, 76]⟩]) (.int .i64 4)).run Tryd.prog w = .ok (.string ⟨#[67, 76]⟩) w := by kernel_rfl
  have e5 : (Instr.index 60 (.agg #[.string ⟨#[66, 68, 50]⟩, .string ⟨#[66, 68, 51]⟩, .string ⟨#[66, 87, 50]⟩, .string ⟨#[66, 87, 51]⟩, .string ⟨#[67, 76]⟩, .string ⟨#[73, 110, 116]⟩, .string ⟨#[75, 67]⟩, .string ⟨#[76, 67]⟩, .string ⟨#[83, 109, 76]⟩]) (.int .i64 5)).run Tryd.prog w = .ok (.string ⟨#[73, 110, 116]⟩) w := by kernel_rfl
  have e6 : (Instr.index 60 (.agg #[.string ⟨#[66, 68, 50]⟩, .string ⟨#[66, 68, 51]⟩, .string ⟨#[66, 87, 50]⟩, .string ⟨#[66, 87, 51]⟩, .string ⟨#[67, 76]⟩, .string ⟨#[73, 110, 116]⟩, .string ⟨#[75, 67]⟩, .string ⟨#[76, 67]⟩, .string ⟨#[83, 109, 76]⟩]) (.int .i64 6)).run Tryd.prog w = .ok (.string ⟨#[75, 67]⟩) w := by kernel_rfl
  have e7 : (Instr.index 60 (.agg #[.string ⟨#[66, 68, 50]⟩, .string ⟨#[66, 68, 51]⟩, .string ⟨#[66, 87, 50]⟩, .string ⟨#[66, 87, 51]⟩, .string ⟨#[67, 76]⟩, .string ⟨#[73, 110, 116]⟩, .string ⟨#[75, 67]⟩, .string ⟨#[76, 67]⟩, .string ⟨#[83, 109, 76]⟩]) (.int .i64 7)).run Tryd.prog w = .ok (.string ⟨#[76, 67]⟩) w := by kernel_rfl
  have e8 : (Instr.index 60 (.agg #[.string ⟨#[66, 68, 50]⟩, .string ⟨#[66, 68, 51]⟩, .string ⟨#[66, 87, 50]⟩, .string ⟨#[66, 87, 51]⟩, .string ⟨#[67, 76]⟩, .string ⟨#[73, 110, 116]⟩, .string ⟨#[75, 67]⟩, .string ⟨#[76, 67]⟩, .string ⟨#[83, 109, 76]⟩]) (.int .i64 8)).run Tryd.prog w = .ok (.string ⟨#[83, 109, 76]⟩) w := by kernel_rfl
  have h9 : i = 0 ∨ i = 1 ∨ i = 2 ∨ i = 3 ∨ i = 4 ∨ i = 5 ∨ i = 6 ∨ i = 7 ∨ i = 8 := by omega
  rcases h9 with rfl | rfl | rfl | rfl | rfl | rfl | rfl | rfl | rfl
  · exact e0
  · exact e1
  · exact e2
  · exact e3
  · exact e4
  · exact e5
  · exact e6
  · exact e7
  · exact e8
set_option maxRecDepth 20000 in
set_option maxHeartbeats 1000000 in
theorem allNames_any (w : World) (hL : LaidS 0 names9 w) : Calls Tryd.prog 54 #[] w (RetSS w names9) := by
  have c0 := hL 0 (by decide)
  have c1 := hL 1 (by decide)
  have c2 := hL 2 (by decide)
  have c3 := hL 3 (by decide)
  have c4 := hL 4 (by decide)
  have c5 := hL 5 (by decide)
  have c6 := hL 6 (by decide)
  have c7 := hL 7 (by decide)
  have c8 := hL 8 (by decide)
  clear hL
  simp only [names9, List.getElem_cons_zero, List.getElem_cons_succ] at c0 c1 c2 c3 c4 c5 c6 c7 c8
  have HIX := hid namesIx
  have HTK : Hid (∀ i, i < 9 → names9.take (i + 1) = names9.take i ++ [nameK i]) := hid (fun i hi => by
    rw [List.take_succ_eq_append_getElem (show i < names9.length from hi)]
    congr 2
    unfold nameK
    rw [List.getD_eq_getElem?_getD, List.getElem?_eq_getElem (show i < names9.length from hi)]; rfl)
  have HLN : Hid (∀ i, (names9.take i).length ≤ 9) := hid (fun i => by rw [List.length_take]; exact Nat.min_le_right _ _)
  have HFIN : Hid (names9.take 9 = names9) := hid rfl
  go_enter Tryd.func54, Tryd.ntmps54
  go_wp2
  go_loopw [1, 5] (fun o i' wr => ∃ i : Nat, i ≤ 9 ∧ i' = .int .i64 i ∧ OwnS wr w.heap.size o (names9.take i) ∧ Keeps w wr) (fun _ i' _ => 9 - (intOf i').toNat)
  case atStart => exact ⟨0, by omega, rfl, OwnS.nil w _, Keeps.refl w⟩
  case round =>
    obtain ⟨i, hi, rfl, hown, kw⟩ := hrel
    clear c0 c1 c2 c3 c4 c5 c6 c7 c8
    by_cases hlt : i < 9
    · have hlt' : (i : Int) < 9 := by omega
      have hix := HIX.out i wr hlt
      have hT := HTK.out i hlt
      have HT := hid hT; clear hT
      have hll := HLN.out i
      have hsz := kw.size
      generalize hL : names9.take i = L at *
      have HL := hid hL; clear hL
      generalize nameK i = x at *
      go_wp2_with (at_builtin; refine appS rfl _ _ rfl w.heap.size _ L rfl (hown.keeps ((Keeps.refl wr).alloc _)) _ [x] rfl (Strs.lit1 wr _) (by simp; omega) (by simp; omega) ?_; intro v3 w3 hv3 hg3 hr3; have k3 := (kw.alloc (.cells #[.string x] 9)).grown hg3 (fun q hq => hr3 q hq))
      go_roundw
      case rel => exact ⟨i + 1, by omega, by go_num, by rw [HT.out]; exact hv3, k3⟩
      case measure => simp [intOf]; omega
    · obtain rfl : i = 9 := by omega
      rw [HFIN.out] at hown
      have hlt' : ¬ ((9 : Nat) : Int) < 9 := by omega
      go_wp2
      go_ret
      exact ⟨_, rfl, hown, kw⟩
--
set_option maxRecDepth 20000 in
theorem logics_1_any (b : List Nat) (hp : Pos b) (x : ByteArray) (hx : x ∈ names9) (B : Nat) (v : Value) (w : World) (hv : Ints w v (zs b))
    (c0 : w.cell? ⟨B, 0, none⟩ = some (.int .i64 b.length)) (c1 : w.cell? ⟨B, 1, none⟩ = some v) :
    Calls Tryd.prog 55 #[.string x, .pointer (some ⟨B, 0, none⟩)] w fun e w' => e = .returned (.bool (dropQ b x)) ∧ Keeps w w' := by
  obtain ⟨k, hk, rfl⟩ := nameK_mem hx
  have HO := hid (isOf_any b hp k hk v w hv)
  have HQ := hid (dropQ_at b hk)
  obtain ⟨p, cap, rfl, _⟩ := hv
  clear hx hp
  generalize ofK b k = r at *
  generalize nameK k = nm at *
  go_enter Tryd.func55, Tryd.ntmps55
  go_wp2_with fail
  refine HO.out.mono ?_; rintro e w2 ⟨rfl, k2⟩
  go_wp2_with fail
  go_ret
  exact ⟨ret_bool (by rw [HQ.out]), k2⟩
theorem enters_logics_1 : Enters 55 := fun _ _ => by kernel_rfl
--
set_option maxRecDepth 20000 in
theorem logics_any (b : List Nat) (hp : Pos b) (v : Value) (w : World) (hv : Ints w v (zs b)) (hL : LaidS 0 names9 w) :
    Calls Tryd.prog 26 #[.agg #[.int .i64 b.length, v]] w (RetSS w (logL b)) := by
  have kA := (Keeps.refl w).alloc (.cells #[.int .i64 b.length, v] 28)
  obtain ⟨c0, c1⟩ := BoxF.made w b.length v 28
  have HN := hid (allNames_any _ (hL.keeps kA))
  have HD := hid (fun g cap wz (ho : OwnS wz (w.alloc (.cells #[.int .i64 b.length, v] 28)).heap.size (.slice (some ⟨g, 0, none⟩) names9.length cap) names9) (kz : Keeps (w.alloc (.cells #[.int .i64 b.length, v] 28)) wz) =>
    deleteFuncSK (dropQ b) 55 #[.pointer (some ⟨w.heap.size, 0, none⟩)] names9 g cap _ wz ho kz (by show 9 ≤ _; omega) enters_logics_1
      (fun x w1 hx k1 => logics_1_any b hp x hx w.heap.size v w1 (hv.keeps (kA.trans k1)) (k1.cell c0) (k1.cell c1)))
  rw [logL_eq] at HD
  obtain ⟨p, cap, rfl, _⟩ := hv
  have hs := kA.size
  have h9 : names9.length = 9 := rfl
  rw [h9] at HD
  clear hp hL h9
  go_enter Tryd.func26, Tryd.ntmps26
  go_wp2_with fail
  refine HN.out.mono ?_; rintro e w2 ⟨v2, rfl, hv2, k2⟩
  obtain ⟨g, q, rfl, _⟩ := hv2.shape (show 0 < names9.length by decide)
  have HD2 := hid (HD.out g q w2 hv2 k2)
  rw [show names9.length = 9 from rfl] at *
  clear hv2
  go_wp2_with fail
  refine HD2.out.mono ?_; rintro e w3 ⟨v3, rfl, hv3, k3⟩
  go_wp2_with fail
  go_ret
  exact ⟨_, rfl, hv3.mono hs, kA.trans k3⟩
--
set_option maxRecDepth 20000 in
set_option maxHeartbeats 1000000 in
theorem l30Logics_any (b : List Nat) (hp : Pos b) (v : Value) (w : World) (hv : Ints w v (zs b)) :
    Calls Tryd.prog 25 #[.agg #[.int .i64 b.length, v]] w (RetSS w (logL b)) := by
  have kA := (Keeps.refl w).alloc (.cells #[.int .i64 b.length, v] 28)
  obtain ⟨c0, c1⟩ := BoxF.made w b.length v 28
  have HO := hid (fun k wz (hk : k < 9) (kz : Keeps w wz) => l30Of_any b hp k hk v wz (hv.keeps kz))
  have HS := hid (logT_succ b)
  have HLN := hid (logT_len b)
  have HFIN : Hid (logT b 9 = logL b) := hid rfl
  have H0 : Hid (logT b 0 = []) := hid rfl
  have hG : ∀ (k : Nat) (h : k < names9.length), names9[k] = nameK k := fun k h => by
    unfold nameK
    rw [List.getD_eq_getElem?_getD, List.getElem?_eq_getElem h]; rfl
  have HG := hid hG; clear hG
  obtain ⟨p, cap, rfl, _⟩ := hv
  have kB := kA.alloc (.cells #[] 9)
  have HNM := hid (l30Names_any ((w.alloc (.cells #[.int .i64 b.length, .slice p (zs b).length cap] 28)).alloc (.cells #[] 9)))
  replace c0 := ((Keeps.refl _).alloc (.cells #[] 9)).cell c0
  replace c1 := ((Keeps.refl _).alloc (.cells #[] 9)).cell c1
  clear hp
  go_enter Tryd.func25, Tryd.ntmps25
  go_wp2_with fail
  refine HNM.out.mono ?_; rintro e w2 ⟨v2, rfl, hv2, k2⟩
  obtain ⟨p2, q2, rfl, hle2, hmx2, hlen2⟩ := hv2.shape
  have kk := kB.trans k2
  replace c0 := k2.cell c0
  replace c1 := k2.cell c1
  have HV2 := hid hv2; clear hv2
  unfold maxLen at hmx2
  rw [show names9.length = 9 from rfl] at *
  go_wp2
  go_loopw [3, 5] (fun o i' wr => ∃ i : Nat, i ≤ 9 ∧ i' = .int .i64 i ∧ ((o = .slice (some ⟨w.heap.size + 1, 0, none⟩) 0 0 ∧ logT b i = []) ∨ OwnS wr w2.heap.size o (logT b i)) ∧ Keeps w2 wr) (fun _ i' _ => 9 - (intOf i').toNat)
  case atStart => exact ⟨0, by omega, rfl, .inl ⟨by simp, H0.out⟩, Keeps.refl _⟩
  case round =>
    obtain ⟨i, hi, rfl, hoi, kw⟩ := hrel
    have kkw := kk.trans kw
    by_cases hlt : i < 9
    · have hlt' : (i : Int) < 9 := by omega
      have kd := (Keeps.refl wr).drew
      obtain ⟨b1, o1, rfl, h1⟩ := (HV2.out.keeps kw).get i hlt
      rw [HG.out i hlt] at h1
      have d0 := kd.cell (kw.cell c0)
      have d1 := kd.cell (kw.cell c1)
      have d2 := kd.cell h1
      have HOi := hid (HO.out i wr.drew hlt (kkw.trans kd))
      have hs := HS.out i
      have hll := HLN.out i
      have hsz := kkw.size
      cases hr : ofK b i
      · rw [hr] at HOi hs
        have HSs : Hid (logT b (i + 1) = logT b i) := hid (by rw [hs]; rfl)
        clear hr hs
        generalize hL : logT b i = L at *
        have HL := hid hL; clear hL
        generalize nameK i = x at *
        go_wp2_with fail
        go_region_held3 (fun w' => w'.cell? ⟨w.heap.size, 0, none⟩ = some (.int .i64 b.length) ∧ w'.cell? ⟨w.heap.size, 1, none⟩ = some (.slice p (zs b).length cap) ∧ w'.cell? ⟨b1, o1 + i, none⟩ = some (.string x)) (first | exact ⟨d0, d1, d2⟩ | exact ⟨y0, y1, y2⟩) (first | (go_at_call 18; refine HOi.out.mono ?_; rintro e w4 ⟨rfl, k4⟩; have y0 := k4.cell d0; have y1 := k4.cell d1; have y2 := k4.cell d2))
        go_wp2_with fail
        go_roundw
        case rel => exact ⟨i + 1, by omega, by go_num, by rw [HSs.out]; exact hoi.imp id (fun h => h.keeps (kd.trans k4)), (kw.trans kd).trans k4⟩
        case measure => simp [intOf]; omega
      · rw [hr] at HOi hs
        have HSs : Hid (logT b (i + 1) = logT b i ++ [nameK i]) := hid (by rw [hs]; rfl)
        clear hr hs
        generalize hL : logT b i = L at *
        have HL := hid hL; clear hL
        generalize nameK i = x at *
        go_wp2_with fail
        go_region_held3 (fun w' => w'.cell? ⟨w.heap.size, 0, none⟩ = some (.int .i64 b.length) ∧ w'.cell? ⟨w.heap.size, 1, none⟩ = some (.slice p (zs b).length cap) ∧ w'.cell? ⟨b1, o1 + i, none⟩ = some (.string x)) (first | exact ⟨d0, d1, d2⟩ | exact ⟨y0, y1, y2⟩) (first | (go_at_call 18; refine HOi.out.mono ?_; rintro e w4 ⟨rfl, k4⟩; have y0 := k4.cell d0; have y1 := k4.cell d1; have y2 := k4.cell d2))
        have kw4 := (kw.trans kd).trans k4
        have hs4 := kw4.size
        rcases hoi with ⟨rfl, hL0⟩ | hoi
        · go_wp2_with (at_builtin; refine appSF rfl _ _ rfl _ rfl _ [x] rfl (Strs.lit1 w4 _) (by simp) (by simp) ?_; intro v3 w3 hv3 kq)
          go_roundw
          case rel => exact ⟨i + 1, by omega, by go_num, .inr (by rw [HSs.out, hL0]; exact hv3.mono (by simp; omega)), (kw4.alloc _).trans kq⟩
          case measure => simp [intOf]; omega
        · have ho4 := hoi.keeps (kd.trans k4)
          clear hoi
          go_wp2_with (at_builtin; refine appS rfl _ _ rfl w2.heap.size _ L rfl (ho4.keeps ((Keeps.refl w4).alloc _)) _ [x] rfl (Strs.lit1 w4 _) (by simp; omega) (by simp; omega) ?_; intro v3 w3 hv3 hg3 hr3; have k3 := (kw4.alloc (.cells #[.string x] 9)).grown hg3 (fun q hq => hr3 q hq))
          go_roundw
          case rel => exact ⟨i + 1, by omega, by go_num, .inr (by rw [HSs.out]; exact hv3), k3⟩
          case measure => simp [intOf]; omega
    · obtain rfl : i = 9 := by omega
      rw [HFIN.out] at hoi
      have hlt' : ¬ ((9 : Nat) : Int) < 9 := by omega
      have hfin : ∀ o, ((o = .slice (some ⟨w.heap.size + 1, 0, none⟩) 0 0 ∧ logL b = []) ∨ OwnS wr w2.heap.size o (logL b)) → OwnS wr w.heap.size o (logL b) := by
        intro o ho
        rcases ho with ⟨rfl, h0⟩ | h
        · rw [h0]
          have hE := OwnS.empty (w.alloc (.cells #[.int .i64 b.length, .slice p (zs b).length cap] 28))
          have := (hE.keeps (k2.trans kw)).mono (kA.size)
          simpa using this
        · exact h.mono kk.size
      have hfo := hfin _ hoi
      clear hoi hfin
      go_wp2
      go_ret
      exact ⟨_, rfl, hfo, kkw⟩
end Go.Proofs.YtpbjeoigpbnekaaDoor
/- LogicsOfPoset's two functions. -/
namespace Go.Proofs.YtpbjeoigpbnekaaDoor
open Go.RowKit
def loC (n : Int) (a : List Int) : Int := if isPos n a = true then 0 else 1
def loR (n : Int) (a : List Int) : List ByteArray := if isPos n a = true then logL (a.map Int.toNat) else []
theorem loR_len (n : Int) (a : List Int) : (loR n a).length ≤ 9 := by
  unfold loR
  split
  · exact logL_len _
  · simp
--
set_option maxRecDepth 20000 in
theorem specLogicsOfPoset (n : Int) (a : List Int) (v : Value) (w : World) (hv : Ints w v a) :
    Calls Tryd.prog 10 #[.agg #[.int .i64 n, v]] w fun e w' => ∃ r, e = .returned (.tuple #[r, .int .i64 (loC n a)]) ∧ OwnS w' w.heap.size r (loR n a) ∧ Keeps w w' := by
  have kA := (Keeps.refl w).alloc (.cells #[.int .i64 n, v] 28)
  obtain ⟨c0, c1⟩ := BoxF.made w n v 28
  have HI := hid (l16Is_any n a v _ (hv.keeps kA))
  have HR : Hid (loR n a = if isPos n a = true then logL (a.map Int.toNat) else []) := hid rfl
  have HC : Hid (loC n a = if isPos n a = true then 0 else 1) := hid rfl
  by_cases hc : isPos n a = true
  · rw [if_pos hc] at HR HC
    rw [hc] at HI
    obtain ⟨b, rfl, rfl, hp⟩ := pos_of hc
    have HL := hid (fun wz (kz : Keeps w wz) => l30Logics_any b hp v wz (hv.keeps kz))
    rw [HC.out, HR.out, zs_toNat]
    obtain ⟨p, cap, rfl, _⟩ := hv
    clear hc hp HR HC
    go_enter Tryd.func10, Tryd.ntmps10
    go_wp2_with fail
    refine HI.out.mono ?_; rintro e w2 ⟨rfl, k2⟩
    have kk := kA.trans k2
    have z0 := k2.cell c0
    have z1 := k2.cell c1
    go_wp2_with fail
    refine (HL.out _ kk).mono ?_; rintro e w3 ⟨r, rfl, hr, k3⟩
    go_wp2_with fail
    go_ret2
    exact ⟨_, rfl, hr.mono kk.size, kk.trans k3⟩
  · rw [if_neg hc] at HR HC
    rw [Bool.not_eq_true] at hc
    rw [hc] at HI
    rw [HC.out, HR.out]
    obtain ⟨p, cap, rfl, _⟩ := hv
    clear hc HR HC
    go_enter Tryd.func10, Tryd.ntmps10
    go_wp2_with fail
    refine HI.out.mono ?_; rintro e w2 ⟨rfl, k2⟩
    go_wp2_with fail
    go_ret2
    exact ⟨_, rfl, OwnS.nil _ _, kA.trans k2⟩
--
set_option maxRecDepth 20000 in
theorem implLogicsOfPoset (n : Int) (a : List Int) (v : Value) (w : World) (hv : Ints w v a) (hL : LaidS 0 names9 w) :
    Calls Tryd.prog 11 #[.agg #[.int .i64 n, v]] w fun e w' => ∃ r, e = .returned (.tuple #[r, .int .i64 (loC n a)]) ∧ OwnS w' w.heap.size r (loR n a) ∧ Keeps w w' := by
  have kA := (Keeps.refl w).alloc (.cells #[.int .i64 n, v] 28)
  obtain ⟨c0, c1⟩ := BoxF.made w n v 28
  have HI := hid (isPoset_any n a v _ (hv.keeps kA))
  have HR : Hid (loR n a = if isPos n a = true then logL (a.map Int.toNat) else []) := hid rfl
  have HC : Hid (loC n a = if isPos n a = true then 0 else 1) := hid rfl
  by_cases hc : isPos n a = true
  · rw [if_pos hc] at HR HC
    rw [hc] at HI
    obtain ⟨b, rfl, rfl, hp⟩ := pos_of hc
    have HL := hid (fun wz (kz : Keeps w wz) => logics_any b hp v wz (hv.keeps kz) (hL.keeps kz))
    rw [HC.out, HR.out, zs_toNat]
    obtain ⟨p, cap, rfl, _⟩ := hv
    clear hc hp HR HC hL
    go_enter Tryd.func11, Tryd.ntmps11
    go_wp2_with fail
    refine HI.out.mono ?_; rintro e w2 ⟨rfl, k2⟩
    have kk := kA.trans k2
    have z0 := k2.cell c0
    have z1 := k2.cell c1
    go_wp2_with fail
    refine (HL.out _ kk).mono ?_; rintro e w3 ⟨r, rfl, hr, k3⟩
    go_wp2_with fail
    go_ret2
    exact ⟨_, rfl, hr.mono kk.size, kk.trans k3⟩
  · rw [if_neg hc] at HR HC
    rw [Bool.not_eq_true] at hc
    rw [hc] at HI
    rw [HC.out, HR.out]
    obtain ⟨p, cap, rfl, _⟩ := hv
    clear hc HR HC hL
    go_enter Tryd.func11, Tryd.ntmps11
    go_wp2_with fail
    refine HI.out.mono ?_; rintro e w2 ⟨rfl, k2⟩
    go_wp2_with fail
    go_ret2
    exact ⟨_, rfl, OwnS.nil _ _, kA.trans k2⟩
end Go.Proofs.YtpbjeoigpbnekaaDoor
