/- From a walk's end to a row's end: a law that answers true and keeps the memory meets its row. -/
import Derived.Test.YtgnlfceloiilbaaGreatRows
import Derived.Test.YtgnlfceloiilbaaGreatGBase
import Derived.ProofKit
import Derived.OpenShut
import Derived.Deep.Slices
import Derived.Deep.Fields
import Derived.ChangeSame
import Derived.Lib.SmallJoins
import Derived.Test.YtgnlfceloiilbaaGreatGSU
import Derived.Test.YtgnlfceloiilbaaGreatGLM
import Derived.Deep.RegionHeld3
namespace Go.Proofs.YtgnlfceloiilbaaGreat
open Go.ChangeShapes Go.WideShapes Go.ChangeAt Go.RowKit Go.Deep

theorem own : ownKnob Tryz.prog.godebug = none := by kernel_rfl
theorem laidOut : laidOutB Tryz.prog = true := by kernel_rfl

section
variable {H : Type} {enc : TypeId × Value → H}
theorem trodAll_stays {W W' : World} (hk : Keeps W W') : ∀ (ts : List TypeId) (vs : List Value) (ds : List (DataW H)) (ps : List MemPlace),
    (∀ t ∈ ts, Tryz.prog.readableRec t = true ∧ t < Tryz.prog.types.size) → (∀ x ∈ ps, x.block < W.heap.size) →
    DataW.TrodAll enc Tryz.prog W 0 (fun _ => true) true ts vs ds ps → DataW.TrodAll enc Tryz.prog W' 0 (fun b => decide (b < W.heap.size)) true ts vs ds ps := by
  intro ts
  induction ts with
  | nil =>
    intro vs ds ps _ _ h
    cases vs <;> cases ds <;> simp [DataW.TrodAll] at h ⊢
    exact h
  | cons t ts ih =>
    intro vs ds ps hr hlt h
    obtain ⟨v, vs', d, ds', p, q, rfl, rfl, rfl, h1, h2⟩ := trodAll_cons h
    obtain ⟨hr1, hr2⟩ := hr t (List.mem_cons_self ..)
    have g1 := Below.trod laidOut hr1 hr2 h1 hk (fun x hx => hlt x (List.mem_append.2 (.inl hx)))
    have g2 := ih _ _ _ (fun t ht => hr t (List.mem_cons_of_mem _ ht)) (fun x hx => hlt x (List.mem_append.2 (.inr hx))) h2
    exact trodAll_cons_mk g1 g2
theorem lawPost {f : Func} {s : ChangeSpec} {W W' : World} {args : Array Value} {ds gs : List (DataW H)} {before : List MemPlace}
    (hW : DataW.Whole enc Tryz.prog f.params.toList s.vars false W args.toList ds gs before) (hvars : s.vars = [])
    (hfn : s.fn H (ds ++ gs) = { results := [.lit (.bool true)], args := ds }) (hres : f.resultTypes = #[4])
    (hr : ∀ t ∈ f.params.toList, Tryz.prog.readableRec t = true ∧ t < Tryz.prog.types.size) (hk : Keeps W W') :
    s.post enc Tryz.prog f false true false false W args (.bool true) W' := by
  have hW' := hW
  obtain ⟨p, q, hA, hV, rfl, _, _⟩ := hW
  have hlt : ∀ x ∈ p, x.block < W.heap.size := fun x hx => hW'.lt x (List.mem_append.2 (.inl hx))
  refine ⟨ds, gs, _, [], p, [], hW', ?_, ?_, ?_, Below.frame hk _, fun h => by cases h⟩
  · rw [hfn, hres]
    exact trodAll_cons_mk (shut_bool Tryz.underlying4 _) trodAll_mk0
  · rw [hfn]
    exact trodAll_stays hk _ _ _ _ hr hlt hA
  · rw [hfn, hvars]
    rfl
end
end Go.Proofs.YtgnlfceloiilbaaGreat
/- Arguments of the laws: numbers' lists, posets, frames, models. -/
namespace Go.Proofs.YtgnlfceloiilbaaGreat
open Go.ChangeShapes Go.WideShapes Go.ChangeAt Go.RowKit Go.Deep
section
variable {H : Type} {enc : TypeId × Value → H} {W : World}
/-- a slice of numbers of whatever length -/
def WkI (w : World) (v : Value) : Prop := ∃ p n cap, v = .slice p n cap ∧ n ≤ maxLen ∧ (n ≤ 2147483648 → ∃ a : List Int, a.length = n ∧ Ints w v a)
theorem choose_allI {α : Type} {n : Nat} {P : Nat → α → Prop} [Inhabited α] (h : ∀ i, i < n → ∃ x, P i x) : ∃ l : List α, l.length = n ∧ ∀ i (hi : i < l.length), P i l[i] := by
  classical
  refine ⟨(List.range n).map fun i => if h' : i < n then Classical.choose (h i h') else default, by simp, fun i hi => ?_⟩
  have hi' : i < n := by simpa using hi
  simp only [List.getElem_map, List.getElem_range, dif_pos hi']
  exact Classical.choose_spec (h i hi')
set_option maxRecDepth 100000 in
theorem wkI_trod {u : Value} {fuel : Nat} {x : DataW H × List MemPlace} (hf : DataW.trod enc Tryz.prog W 0 (fun _ => true) true fuel 26 [u] = some x) : WkI W u := by
  have hC : Tryz.prog.cellsOf 2 = 1 := by kernel_rfl
  rcases open_slice1 Tryz.underlying26 hC hf with ⟨hcs, _⟩ | ⟨a, n, cap, m, n', V, D, Pl, hcs, _, hl, hm, hmm, _, hi⟩
  · obtain rfl : u = .slice none 0 0 := by simpa using hcs
    exact ⟨none, 0, 0, rfl, by simp [maxLen], fun _ => ⟨[], rfl, none, 0, rfl, by simp, by simp [maxLen], At.nil _ _, by simp⟩⟩
  · obtain rfl : u = .slice (some a) n cap := by simpa using hcs
    refine ⟨some a, n, cap, rfl, by omega, fun hn => ?_⟩
    simp at hmm
    have hel : ∀ i, i < n → ∃ x : Int, W.cell? (a.add i) = some (.int .i64 x) := fun i hin => by
      obtain ⟨h1, h2⟩ := hi i (by omega)
      obtain ⟨x, hx, _⟩ := DataW.trod_int Tryz.underlying2 h2
      simp at hx
      exact ⟨x, by rw [h1, hx]⟩
    have hspot : 0 < n → ∃ b off, a = ⟨b, off, none⟩ := fun h0 => by
      obtain ⟨b, off, spot⟩ := a
      obtain ⟨x, hx⟩ := hel 0 h0
      have hs : spot = none := by simpa [Addr.add] using World.cell?_spot hx
      subst hs
      exact ⟨b, off, rfl⟩
    have hadd : ∀ b off k, (⟨b, off, none⟩ : Addr).add k = ⟨b, off + k, none⟩ := fun b off k => by unfold Addr.add; split <;> simp_all
    obtain ⟨l, hnl, hns⟩ := choose_allI (α := Int) (P := fun i x => W.cell? (a.add i) = some (.int .i64 x)) (n := n) hel
    subst hnl
    refine ⟨l, rfl, some a, cap, rfl, hl, hm, ?_, hn⟩
    intro j hj
    have hj' : j < l.length := by simpa [intCells] using hj
    obtain ⟨b, off, rfl⟩ := hspot (by omega)
    refine ⟨b, off, rfl, ?_⟩
    have := hns j hj'
    rw [hadd] at this
    rw [this]; simp [intCells]
set_option maxRecDepth 100000 in
theorem open_wkI {r : Reach} {b0 : Nat} {v : Value} {d : DataW H} {ps : List MemPlace} (hval : Value.okWide Tryz.prog W r b0 26 v)
    (h : DataW.Trod enc Tryz.prog W 0 (fun _ => true) true 26 v d ps) : WkI W v := by
  obtain ⟨p, n, cap, rfl⟩ := okWide_slice Tryz.underlying26 hval
  obtain ⟨fuel, hf⟩ := h
  exact wkI_trod hf
end
end Go.Proofs.YtgnlfceloiilbaaGreat
/- Walks: the laws' own comparisons and marks of lists of strings. -/
namespace Go.Proofs.YtgnlfceloiilbaaGreat
open Go.RowKit
--
/-- the digits of a number ahead of a text -/
def digA : Nat → Nat → ByteArray → ByteArray
  | 0, _, s => s
  | f + 1, m, s => if m = 0 then s else digA f (m / 10) (⟨#[UInt8.ofNat (48 + m % 10)]⟩ ++ s)
def mkT (k : Int) : ByteArray := ⟨#[109]⟩ ++ digA 20 k.toNat ⟨#[]⟩
theorem byte_tab : ∀ m : Fin 10, ((UInt8.ofNat (48 + (m : Nat))).toNat : Int) = 48 + ((m : Nat) : Int) := by decide +kernel
theorem mod_tab : ∀ m : Fin 10, IntKind.u8.wrap (48 + ((m : Nat) : Int)) = 48 + ((m : Nat) : Int) := by decide +kernel
theorem digA_zero (f : Nat) (s : ByteArray) : digA f 0 s = s := by cases f <;> rfl
theorem digA_more (f m : Nat) (s : ByteArray) (h : 0 < m) : digA (f + 1) m s = digA f (m / 10) (⟨#[UInt8.ofNat (48 + m % 10)]⟩ ++ s) := by
  rw [digA, if_neg (by omega)]
set_option maxRecDepth 20000 in
set_option maxHeartbeats 1000000 in
theorem markText_any (k : Int) (w : World) (h0 : 0 < k) (h1 : k ≤ 4294967296) :
    Calls Tryz.prog 129 #[.int .i64 k] w fun e w' => e = .returned (.string (mkT k)) ∧ Keeps w w' := by
  obtain ⟨n, rfl⟩ := Int.eq_ofNat_of_zero_le (show 0 ≤ k by omega)
  have HK : Hid (mkT (n : Int) = ⟨#[109]⟩ ++ digA 20 n ⟨#[]⟩) := hid rfl
  go_enter Tryz.func129, Tryz.ntmps129
  go_wp2
  go_loopw [0, 3] (fun m' s' wr => ∃ (f m : Nat) (s : ByteArray), m < 10 ^ f ∧ f ≤ 20 ∧ m ≤ n ∧ s.size + f ≤ 20 ∧ m' = .int .i64 m ∧ s' = .string s ∧ digA 20 n ⟨#[]⟩ = digA f m s ∧ Keeps w wr) (fun m' _ _ => (intOf m').toNat)
  case atStart => exact ⟨20, n, ⟨#[]⟩, by omega, by omega, Nat.le_refl _, (by show 0 + 20 ≤ 20; omega), rfl, rfl, rfl, Keeps.refl _⟩
  case round =>
    obtain ⟨f, m, s, hm, hf, hmn, hs, rfl, rfl, hd, kw⟩ := hrel
    have HD := hid hd; clear hd
    by_cases hp : 0 < m
    · have hp' : (m : Int) > 0 := by omega
      obtain ⟨f, rfl⟩ : ∃ f', f = f' + 1 := by
        cases f with
        | zero => omega
        | succ f => exact ⟨f, rfl⟩
      have hlt : m / 10 < 10 ^ f := by rw [Nat.pow_succ] at hm; omega
      have e1 := mod_tab ⟨m % 10, Nat.mod_lt _ (by omega)⟩
      have e2 := byte_tab ⟨m % 10, Nat.mod_lt _ (by omega)⟩
      simp only at e1 e2
      have e3 : ((m % 10 : Nat) : Int) = (m : Int) % 10 := by omega
      rw [e3] at e1 e2
      have hcv : (convert 40 9 (.slice (some ⟨wr.heap.size, 0, none⟩) 1 1)).run Tryz.prog (wr.alloc (.cells #[.int .u8 (48 + (m : Int) % 10)] 5)) = .ok (.string ⟨#[UInt8.ofNat (48 + m % 10)]⟩) (wr.alloc (.cells #[.int .u8 (48 + (m : Int) % 10)] 5)) :=
        run_convert_bytes_back _ _ _ _ _ 1 [UInt8.ofNat (48 + m % 10)] Tryz.underlying40 Tryz.underlying5 Tryz.underlying9 (fun j hj => by
          obtain rfl : j = 0 := by simpa using hj
          rw [List.getElem_cons_zero, e2]
          simp [Addr.add])
      have HM := hid (digA_more f m s hp)
      have hsz : (⟨#[UInt8.ofNat (48 + m % 10)]⟩ : ByteArray).size = 1 := rfl
      have hsz2 : ((⟨#[UInt8.ofNat (48 + m % 10)]⟩ : ByteArray) ++ s).size = 1 + s.size := by rw [ByteArray.size_append, hsz]
      have HZ := hid hsz2; clear hsz2
      have k2 := kw.alloc (.cells #[.int .u8 (48 + (m : Int) % 10)] 5)
      clear hm e2 e3
      generalize (⟨#[UInt8.ofNat (48 + m % 10)]⟩ : ByteArray) = c at *
      go_wp2
      go_roundw
      case rel => exact ⟨f, m / 10, c ++ s, hlt, by omega, by omega, by have := HZ.out; omega, by first | rfl | (congr 1; omega), rfl, by rw [HD.out, HM.out], k2⟩
      case measure => simp [intOf]; omega
    · have hp' : ¬ (m : Int) > 0 := by omega
      have hm0 : m = 0 := by omega
      have HE : Hid (mkT (n : Int) = ⟨#[109]⟩ ++ s) := hid (by rw [HK.out, HD.out, hm0, digA_zero])
      clear hm0
      clear HD HK hm
      go_wp2
      go_ret
      exact ⟨by rw [HE.out]; rfl, kw⟩
--
set_option maxHeartbeats 400000 in
theorem eqStringS_same (a : List ByteArray) (va vb : Value) (w : World) (hva : Strs w va a) (hvb : Strs w vb a) :
    Calls Tryz.prog 63 #[va, vb] w fun e w' => e = .returned (.bool true) ∧ Keeps w w' := by
  obtain ⟨pa, ca, rfl, hlea, hmxa, hlena⟩ := hva.shape
  obtain ⟨pb, cb, rfl, hleb, hmxb, hlenb⟩ := hvb.shape
  unfold maxLen at hmxa hmxb
  have HA := hid hva; clear hva
  have HB := hid hvb; clear hvb
  have hl' : ((a.length : Int) != (a.length : Int)) = false := by simp
  go_enter Tryz.func63, Tryz.ntmps63
  go_wp2
  go_loopw [4, 5] (fun r i' wr => ∃ k : Nat, k ≤ a.length ∧ Keeps w wr ∧ i' = .int .i64 k ∧ r = .bool false) (fun _ i _ => a.length - (intOf i).toNat)
  case atStart => exact ⟨0, by omega, Keeps.refl w, rfl, rfl⟩
  case round =>
    obtain ⟨k, hk, kw, rfl, rfl⟩ := hrel
    clear hl'
    by_cases hlt : k < a.length
    · obtain ⟨b1, o1, rfl, h1⟩ := (HA.out.keeps kw).get k hlt
      obtain ⟨b2, o2, rfl, h2⟩ := (HB.out.keeps kw).get k hlt
      have hlt' : (k : Int) < a.length := by omega
      generalize a[k] = x at *
      have hd : (x.toList != x.toList) = false := by simp
      go_wp2_with fail
      go_quiet (fail)
      go_wp2
      go_roundw
      case rel => exact ⟨k + 1, by omega, kw.drewN _, by go_num, rfl⟩
      case measure => simp [intOf]; omega
    · have hlt' : ¬ (k : Int) < a.length := by omega
      go_wp2
      go_ret
      exact ⟨rfl, kw⟩
theorem OwnS.shape0 {w : World} {B : Nat} {v : Value} {a : List ByteArray} (h : OwnS w B v a) : ∃ p n c, v = .slice p n c := by obtain ⟨p, c, e, _⟩ := At.of_own h; exact ⟨p, _, c, e⟩
theorem OwnS.shape {w : World} {B : Nat} {v : Value} {a : List ByteArray} (h : OwnS w B v a) (hne : 0 < a.length) : ∃ g cap, v = .slice (some ⟨g, 0, none⟩) a.length cap ∧ B ≤ g ∧ a.length ≤ cap ∧ cap ≤ maxLen := by
  obtain ⟨hl, ⟨_, h0⟩ | ⟨g, cap, cur, rfl, hb, hg, hn, hm, hs, ht⟩⟩ := h
  · omega
  · exact ⟨g, cap, rfl, hb, hn, hm⟩
theorem Strs.shape0 {w : World} {v : Value} {a : List ByteArray} (h : Strs w v a) : ∃ p n c, v = .slice p n c := by obtain ⟨p, c, e, _⟩ := h.shape; exact ⟨p, _, c, e⟩
theorem OwnS.touch {w w' : World} {S : Nat → Prop} {B : Nat} {v : Value} {a : List ByteArray} (h : OwnS w B v a) (k : Touch w w' S) (hS : ∀ i, v.ownBlock = some i → ¬ S i) : OwnS w' B v a := own_touch h k hS
theorem OwnS.low {w w' : World} {B : Nat} {v : Value} {x : List ByteArray} (h : OwnS w B v x) (k : Low w w' B) : OwnS w' B v x := h.touch k (fun i hi => by have := (h.len i hi).1; omega)
theorem OwnS.lowOf {w0 w : World} {B : Nat} {v : Value} {x : List ByteArray} (h : OwnS w0 B v x) (k : Keeps w0 w) : Low w0 w B := by have _ := h; exact Low.of k B
theorem grown_keepsS {w w1 w2 : World} {row : Option Nat} (h : w.grownBy w1 row) (k : Keeps w1 w2) : w.grownBy w2 row :=
  ⟨k.os.trans h.os, k.tape.trans h.tape, k.output.trans h.output, Nat.le_trans h.size k.size, fun i hi hr => (k.block (Nat.lt_of_lt_of_le hi h.size)).trans (h.block i hi hr)⟩
--
def marksS (n : Nat) (k : Int) : List ByteArray := (marksI n k).map mkT
theorem marksS_length (n : Nat) (k : Int) : (marksS n k).length = n := by simp [marksS, marksI_length]
theorem marksS_succ (n : Nat) (k : Int) : marksS (n + 1) k = marksS n k ++ [mkT (k + n)] := by simp [marksS, marksI_succ]
theorem marksS_get (n : Nat) (k : Int) (i : Nat) (h : i < (marksS n k).length) : (marksS n k)[i] = mkT (k + i) := by simp [marksS, marksI_get]
set_option maxRecDepth 20000 in
set_option maxHeartbeats 1000000 in
theorem markStringS_any (a : List ByteArray) (v : Value) (k0 : Int) (w : World) (B : Nat) (hv : OwnS w B v a) (hl : a.length ≤ 1000000000) (hk0 : 0 < k0) (hk1 : k0 ≤ 1000000000) :
    Calls Tryz.prog 64 #[v, .int .i64 k0] w fun e w' => e = .returned (.int .i64 (k0 + a.length)) ∧ OwnS w' B v (marksS a.length k0) ∧ w.grownBy w' v.ownBlock := by
  have hdist : a = [] ∨ 0 < a.length := by cases a with
    | nil => exact .inl rfl
    | cons x l => right; simp
  rcases hdist with rfl | hpos
  · obtain ⟨p, cap, rfl, _, _, _⟩ := At.of_own hv
    go_enter Tryz.func64, Tryz.ntmps64
    go_wp2
    refine wp_loop_once ?_
    go_wp2
    go_ret
    exact ⟨by simp, hv, grown_refl _ _⟩
  · obtain ⟨g, cap, rfl, hB, hle, hmx⟩ := hv.shape hpos
    unfold maxLen at hmx
    go_enter Tryz.func64, Tryz.ntmps64
    go_wp2
    go_loopw [1, 5] (fun c i' wr => ∃ (k : Nat) (xs : List ByteArray), k ≤ a.length ∧ i' = .int .i64 k ∧ c = .int .i64 (k0 + k) ∧ xs.length = a.length ∧ xs.take k = marksS k k0 ∧ OwnS wr B (.slice (some ⟨g, 0, none⟩) a.length cap) xs ∧ w.grownBy wr (some g)) (fun _ i _ => a.length - (intOf i).toNat)
    case atStart => exact ⟨0, a, by omega, rfl, by simp, rfl, by simp [marksS, marksI], hv, grown_refl _ _⟩
    case round =>
      obtain ⟨k, xs, hk, rfl, rfl, hxl, htk, hownk, hgr⟩ := hrel
      have HX := hid hxl; clear hxl
      have HT := hid htk; clear htk
      clear hv
      by_cases hlt : k < a.length
      · have hltx : k < xs.length := by have := HX.out; omega
        have hlt' : (k : Int) < a.length := by omega
        have HC := hid (markText_any (k0 + k) wr (by omega) (by omega))
        have HO := hid hownk; clear hownk
        generalize hmt : mkT (k0 + k) = mt at *
        have HMT := hid hmt; clear hmt
        go_wp2_with fail
        refine HC.out.mono ?_; rintro e w2 ⟨rfl, k2⟩
        have ho2 := HO.out.keeps k2
        have hcell := OwnS.cellAt (a := xs) (by rw [HX.out]; exact ho2) (List.getElem?_eq_getElem hltx)
        obtain ⟨c1, c3⟩ := hcell
        have h3 := (OwnS.store (a := xs) (by rw [HX.out]; exact ho2) k mt)
        rw [HX.out] at h3
        have H3 := hid h3; clear h3
        have hgr2 := grown_keepsS hgr k2
        have HG := hid hgr2; clear hgr2 ho2
        go_wp2_with fail
        go_roundw
        case rel =>
          refine ⟨k + 1, _, by omega, by go_num, by go_num, ?_, ?_, H3.out.1, ?_⟩
          · rw [List.length_set]; exact HX.out
          · rw [List.take_succ_eq_append_getElem (by rw [List.length_set]; exact hltx), List.take_set_of_le (Nat.le_refl _), List.getElem_set_self, HT.out, marksS_succ, HMT.out]
          · exact grown_trans HG.out H3.out.2
        case measure => simp [intOf]; omega
      · have hlt' : ¬ (k : Int) < a.length := by omega
        go_wp2
        go_ret
        obtain rfl : k = a.length := by omega
        have hx : xs = marksS a.length k0 := by
          have h1 := HX.out; have h2 := HT.out
          rw [List.take_of_length_le (by omega)] at h2
          exact h2
        subst hx
        exact ⟨rfl, hownk, hgr⟩
--
set_option maxRecDepth 20000 in
set_option maxHeartbeats 1000000 in
theorem heldStringS_any (n : Nat) (v : Value) (k0 : Int) (w : World) (hv : Strs w v (marksS n k0)) (hk0 : 0 < k0) (hk1 : k0 ≤ 1000000000) (hn1 : n ≤ 1000000000) :
    Calls Tryz.prog 130 #[v, .int .i64 k0] w fun e w' => e = .returned (.int .i64 (k0 + n)) ∧ Keeps w w' := by
  have hn : (marksS n k0).length = n := marksS_length n k0
  have hg := marksS_get n k0
  generalize marksS n k0 = a at *
  subst hn
  obtain ⟨p, cap, rfl, hle, hmx, hlen⟩ := hv.shape
  unfold maxLen at hmx
  have HV := hid hv; clear hv
  have HG := hid hg; clear hg
  go_enter Tryz.func130, Tryz.ntmps130
  go_wp2
  go_loopw [1, 4, 5] (fun c r i' wr => ∃ k : Nat, k ≤ a.length ∧ i' = .int .i64 k ∧ c = .int .i64 (k0 + k) ∧ r = .int .i64 0 ∧ Keeps w wr) (fun _ _ i _ => a.length - (intOf i).toNat)
  case atStart => exact ⟨0, by omega, rfl, by simp, rfl, Keeps.refl _⟩
  case round =>
    obtain ⟨k, hk, rfl, rfl, rfl, kw⟩ := hrel
    by_cases hlt : k < a.length
    · have hlt' : (k : Int) < a.length := by omega
      have kd := (Keeps.refl wr).drew
      obtain ⟨b, off, rfl, h1⟩ := (HV.out.keeps (kw.trans kd)).get k hlt
      rw [HG.out k hlt] at h1
      have HC := hid (markText_any (k0 + k) wr.drew (by omega) (by omega))
      generalize mkT (k0 + k) = mt at *
      have hd : (mt.toList != mt.toList) = false := by simp
      go_wp2_with fail
      go_region_held3 (fun w' => w'.cell? ⟨b, off + k, none⟩ = some (.string mt)) (first | exact h1 | exact y1) (first | (go_at_call 129; refine HC.out.mono ?_; rintro e w2 ⟨rfl, k2⟩; have y1 := k2.cell h1))
      go_wp2_with fail
      go_roundw
      case rel => exact ⟨k + 1, by omega, by go_num, by go_num, rfl, (kw.trans kd).trans k2⟩
      case measure => simp [intOf]; omega
    · have hlt' : ¬ (k : Int) < a.length := by omega
      go_wp2
      go_ret
      exact ⟨ret_int (by omega), kw⟩
--
theorem markS_o (a : List ByteArray) (v : Value) (k0 : Int) (w : World) (B : Nat) (hv : OwnS w B v a) (hl : a.length ≤ 1000000000) (hk0 : 0 < k0) (hk1 : k0 ≤ 1000000000) :
    Calls Tryz.prog 64 #[v, .int .i64 k0] w fun e w' => e = .returned (.int .i64 (k0 + a.length)) ∧ OwnS w' B v (marksS a.length k0) ∧ Touch w w' (fun i => some i = v.ownBlock) := by
  refine (markStringS_any a v k0 w B hv hl hk0 hk1).mono ?_
  rintro e w' ⟨rfl, ho, g⟩
  exact ⟨rfl, ho, Touch.grown g⟩
theorem markS_t (a : List ByteArray) (v : Value) (k0 : Int) (w0 w : World) (B : Nat) (hv : OwnS w0 B v a) (k : Low w0 w B) (hl : a.length ≤ 1000000000) (hk0 : 0 < k0) (hk1 : k0 ≤ 1000000000) :
    Calls Tryz.prog 64 #[v, .int .i64 k0] w fun e w' => e = .returned (.int .i64 (k0 + a.length)) ∧ OwnS w' B v (marksS a.length k0) ∧ Touch w w' (fun i => B ≤ i ∧ i < w0.heap.size) := by
  have hlen := hv.len
  refine (markStringS_any a v k0 w B (hv.low k) hl hk0 hk1).mono ?_
  rintro e w' ⟨rfl, ho, g⟩
  exact ⟨rfl, ho, (Touch.grown g).mono (fun i hi => hlen i hi.symm)⟩
end Go.Proofs.YtgnlfceloiilbaaGreat
/- Walks: the laws' own measures, copies, comparisons and marks of modal sequents. -/
namespace Go.Proofs.YtgnlfceloiilbaaGreat
open Go.RowKit
def totS (ss : List ByteArray) : Nat := (ss.map ByteArray.size).sum
theorem totS_snoc (ss : List ByteArray) (k : Nat) (h : k < ss.length) : totS (ss.take (k + 1)) = totS (ss.take k) + ss[k].size := by
  unfold totS; rw [List.take_succ_eq_append_getElem h, List.map_append, List.sum_append]; simp
theorem totS_le (ss : List ByteArray) (k : Nat) : totS (ss.take k) ≤ totS ss := by
  have h : ss.take k ++ ss.drop k = ss := List.take_append_drop k ss
  have : totS ss = totS (ss.take k) + totS (ss.drop k) := by
    conv => lhs; rw [← h]
    unfold totS; rw [List.map_append, List.sum_append]
  omega
theorem totS_mem {ss : List ByteArray} {s : ByteArray} (h : s ∈ ss) : s.size ≤ totS ss := by
  unfold totS
  induction ss with
  | nil => simp at h
  | cons x l ih =>
    rw [List.map_cons, List.sum_cons]
    rcases List.mem_cons.1 h with e | e
    · subst e; omega
    · have := ih e; omega
/-- how much a list of texts counts -/
def szB (ss : List ByteArray) : Nat := ss.length + totS ss
theorem szB_len (ss : List ByteArray) : ss.length ≤ szB ss := Nat.le_add_right _ _
theorem szB_mem {ss : List ByteArray} {s : ByteArray} (h : s ∈ ss) : s.size ≤ szB ss := by have := totS_mem h; unfold szB; omega
theorem szB_small {ss : List ByteArray} (h : szB ss ≤ 1048576) : ∀ s ∈ ss, s.size ≤ maxLen := fun s hs => by have := szB_mem hs; unfold maxLen; omega
/-- a slice of texts of whatever length -/
def WkS (w : World) (v : Value) : Prop := ∃ p n cap, v = .slice p n cap ∧ n ≤ maxLen ∧ (n ≤ 2147483648 → ∃ ss : List ByteArray, ss.length = n ∧ Strs w v ss ∧ ∀ s ∈ ss, s.size ≤ maxLen)
--
set_option maxRecDepth 20000 in
set_option maxHeartbeats 1000000 in
theorem szStringS_any (ss : List ByteArray) (v : Value) (left : Int) (w : World) (hv : Strs w v ss) (hz : ∀ s ∈ ss, s.size ≤ maxLen) (h0 : 0 ≤ left) (h1 : left ≤ 1048576) :
    Calls Tryz.prog 50 #[v, .int .i64 left] w fun e w' => e = .returned (.int .i64 (if left < szB ss then -1 else left - szB ss)) ∧ w = w' := by
  obtain ⟨p, cap, rfl, hle, hmx, hlen⟩ := hv.shape
  unfold maxLen at hmx
  have HV := hid hv; clear hv
  have HD : Hid (szB ss = ss.length + totS ss) := hid rfl
  have HSZ := hid (fun k (h : k < ss.length) => hz _ (List.getElem_mem h)); clear hz
  have HT0 : Hid (totS (ss.take 0) = 0) := hid rfl
  have HTE : Hid (totS (ss.take ss.length) = totS ss) := hid (by rw [List.take_length])
  have HTS := hid (totS_snoc ss)
  have HTL := hid (totS_le ss)
  generalize szB ss = sz at *
  obtain ⟨r, hr⟩ : ∃ r : Int, (if left < sz then -1 else left - sz) = r := ⟨_, rfl⟩
  rw [hr]
  have HR1 : Hid (left < sz → r = -1) := hid (fun h => by rw [← hr, if_pos h])
  have HR2 : Hid (¬ left < sz → r = left - sz) := hid (fun h => by rw [← hr, if_neg h])
  clear hr
  by_cases hl : left < ss.length
  · obtain rfl : r = -1 := HR1.out (by have := HD.out; omega)
    clear HR1 HR2
    have hl' : left - ss.length < 0 := by omega
    go_enter Tryz.func50, Tryz.ntmps50
    go_wp2
    go_ret
    exact ⟨rfl, rfl⟩
  · have hl' : ¬ (left - ss.length < 0) := by omega
    go_enter Tryz.func50, Tryz.ntmps50
    go_wp2
    go_loop [1, 4, 5] (fun c r i' => ∃ k : Nat, k ≤ ss.length ∧ i' = .int .i64 k ∧ c = .int .i64 (left - ss.length - totS (ss.take k)) ∧ r = .int .i64 0 ∧ (totS (ss.take k) : Int) ≤ left - ss.length) (fun _ _ i => ss.length - (intOf i).toNat)
    case atStart => exact ⟨0, by omega, rfl, by rw [HT0.out]; simp, rfl, by rw [HT0.out]; omega⟩
    case round =>
      obtain ⟨k, hk, rfl, rfl, rfl, hb⟩ := hrel
      by_cases hlt : k < ss.length
      · have hlt' : (k : Int) < ss.length := by omega
        obtain ⟨b, off, rfl, hc⟩ := HV.out.get k hlt
        have hs := HTS.out k hlt
        have hs2 := HTL.out (k + 1)
        have HS := hid hs; clear hs
        have hxs := HSZ.out k hlt
        unfold maxLen at hxs
        generalize ss[k] = x at *
        generalize totS (ss.take k) = t at *
        by_cases hlx : left - ss.length - t - x.size < 0
        · have hx : r = -1 := HR1.out (by have hx := HD.out; have hx2 := HS.out; omega)
          have HRR := hid hx; clear hx HR1 HR2
          go_wp2
          go_ret
          exact ⟨ret_int (by rw [HRR.out]), rfl⟩
        · have hx0 : 0 ≤ left - ss.length - t - x.size := by omega
          have hx1 : left - ss.length - t - x.size ≤ 1048576 := by omega
          go_wp2
          go_round
          case rel => exact ⟨k + 1, by omega, by go_num, by rw [HS.out]; first | (push_cast; go_num) | (congr 1; omega) | go_num, rfl, by rw [HS.out]; push_cast; omega⟩
          case measure => simp [intOf]; omega
      · obtain rfl : k = ss.length := by omega
        have hlt' : ¬ ((ss.length : Int) < ss.length) := by omega
        rw [HTE.out] at hb ⊢
        have hx : r = left - ss.length - (totS ss : Int) := by
          rw [HR2.out (by have := HD.out; omega), HD.out]; push_cast; omega
        have HRR := hid hx; clear hx HR1 HR2
        go_wp2
        go_ret
        exact ⟨ret_int (by rw [HRR.out]), rfl⟩
theorem szStringS_big (p : Option Addr) (n cap : Nat) (left : Int) (w : World) (hn : n ≤ maxLen) (h0 : 0 ≤ left) (h1 : left ≤ 1048576) (hl : left < n) :
    Calls Tryz.prog 50 #[.slice p n cap, .int .i64 left] w fun e w' => e = .returned (.int .i64 (-1)) ∧ w = w' := by
  unfold maxLen at hn
  have hl' : left - n < 0 := by omega
  go_enter Tryz.func50, Tryz.ntmps50
  go_wp2
  go_ret
  exact ⟨rfl, rfl⟩
/-- what is counted for a slice of texts -/
def SzS (w : World) (v : Value) (N : Nat) : Prop :=
  (∀ (w' : World) (left : Int), Keeps w w' → 0 ≤ left → left ≤ 1048576 → Calls Tryz.prog 50 #[v, .int .i64 left] w' fun e w'' => e = .returned (.int .i64 (if left < N then -1 else left - N)) ∧ w' = w'') ∧
  (N ≤ 1048576 → ∃ ss : List ByteArray, N = szB ss ∧ Strs w v ss)
theorem SzS.keeps {w w' : World} {v : Value} {N : Nat} (h : SzS w v N) (k : Keeps w w') : SzS w' v N :=
  ⟨fun w2 left k2 h0 h1 => h.1 w2 left (k.trans k2) h0 h1, fun hN => by
    obtain ⟨ss, e, hs⟩ := h.2 hN
    exact ⟨ss, e, hs.keeps k⟩⟩
theorem SzS.of {w : World} {v : Value} {ss : List ByteArray} (h : Strs w v ss) (hz : szB ss ≤ 1048576) : SzS w v (szB ss) :=
  ⟨fun w' left k h0 h1 => szStringS_any ss _ left w' (h.keeps k) (szB_small hz) h0 h1, fun _ => ⟨ss, rfl, h⟩⟩
theorem WkS.sz {w : World} {v : Value} (h : WkS w v) : ∃ N, SzS w v N := by
  obtain ⟨p, n, cap, rfl, hm, hr⟩ := h
  by_cases hn : n ≤ 2147483648
  · obtain ⟨ss, rfl, hv, hz⟩ := hr hn
    exact ⟨szB ss, fun w' left k h0 h1 => szStringS_any ss _ left w' (hv.keeps k) hz h0 h1, fun _ => ⟨ss, rfl, hv⟩⟩
  · exact ⟨n, fun w' left _ h0 h1 => by
      rw [if_pos (by omega)]
      exact szStringS_big p n cap left w' hm h0 h1 (by omega), fun h => by omega⟩
theorem SepS.of {w1 w2 : World} {B1 B2 : Nat} {va vb : Value} {a b : List ByteArray} (h1 : OwnS w1 B1 va a) (h2 : OwnS w2 B2 vb b) (h : w1.heap.size ≤ B2) : Sep va vb := fun k e1 e2 => by
  have := h1.len k e1; have := h2.len k e2; omega
/-- a sequent's two owned rows, which lie apart -/
def OwnQ (w : World) (B : Nat) (va vb : Value) (a b : List ByteArray) : Prop := OwnS w B va a ∧ OwnS w B vb b ∧ Sep va vb
theorem OwnQ.keeps {w w' : World} {B : Nat} {va vb : Value} {a b : List ByteArray} (h : OwnQ w B va vb a b) (k : Keeps w w') : OwnQ w' B va vb a b := ⟨h.1.keeps k, h.2.1.keeps k, h.2.2⟩
theorem OwnQ.mono {w : World} {B B' : Nat} {va vb : Value} {a b : List ByteArray} (h : OwnQ w B va vb a b) (k : B' ≤ B) : OwnQ w B' va vb a b := ⟨h.1.mono k, h.2.1.mono k, h.2.2⟩
theorem OwnQ.low {w w' : World} {B : Nat} {va vb : Value} {a b : List ByteArray} (h : OwnQ w B va vb a b) (k : Low w w' B) : OwnQ w' B va vb a b := ⟨h.1.low k, h.2.1.low k, h.2.2⟩
theorem OwnQ.lowOf {w0 w : World} {B : Nat} {va vb : Value} {a b : List ByteArray} (h : OwnQ w0 B va vb a b) (k : Keeps w0 w) : Low w0 w B := by have _ := h; exact Low.of k B
theorem OwnS.setBelow {w : World} {B : Nat} {v : Value} {a : List ByteArray} (h : OwnS w B v a) {b o : Nat} (hb : b < B) (u : Value) : OwnS (w.setCell ⟨b, o, none⟩ u) B v a := ownsRow_setCell_below h (a := ⟨b, o, none⟩) hb u
--
set_option maxRecDepth 20000 in
theorem szModalSequent_any (va vb : Value) (A B : Nat) (left : Int) (w : World) (ha : SzS w va A) (hb : SzS w vb B) (hsa : ∃ p n c, va = .slice p n c) (hsb : ∃ p n c, vb = .slice p n c) (h0 : 0 ≤ left) (h1 : left ≤ 1048576) :
    Calls Tryz.prog 9 #[.agg #[va, vb], .int .i64 left] w fun e w' => e = .returned (.int .i64 (if left < A + B then -1 else left - A - B)) ∧ Keeps w w' := by
  have k1 := (Keeps.refl w).alloc (.cells #[va, vb] 24)
  have HA := hid (ha.1 _ left k1 h0 h1)
  have HB := hid (fun l h2 h3 => hb.1 (w.alloc (.cells #[va, vb] 24)) l k1 h2 h3)
  obtain ⟨p, n, c, rfl⟩ := hsa
  obtain ⟨q, n2, c2, rfl⟩ := hsb
  clear ha hb
  by_cases h : left < A
  · rw [if_pos h] at HA
    rw [if_pos (by omega)]
    go_enter Tryz.func9, Tryz.ntmps9
    go_wp2_with fail
    refine HA.out.mono ?_; rintro e w2 ⟨rfl, rfl⟩
    go_wp2_with fail
    go_ret
    exact ⟨rfl, k1⟩
  · rw [if_neg h] at HA
    have HB2 := hid (HB.out (left - A) (by omega) (by omega))
    have hlo : ¬ (left - A < 0) := by omega
    by_cases h2 : left - A < B
    · rw [if_pos h2] at HB2
      rw [if_pos (by omega)]
      go_enter Tryz.func9, Tryz.ntmps9
      go_wp2_with fail
      refine HA.out.mono ?_; rintro e w2 ⟨rfl, rfl⟩
      go_wp2_with fail
      refine HB2.out.mono ?_; rintro e w3 ⟨rfl, rfl⟩
      go_wp2_with fail
      go_ret
      exact ⟨rfl, k1⟩
    · rw [if_neg h2] at HB2
      rw [if_neg (by omega)]
      have hlo2 : ¬ (left - A - B < 0) := by omega
      go_enter Tryz.func9, Tryz.ntmps9
      go_wp2_with fail
      refine HA.out.mono ?_; rintro e w2 ⟨rfl, rfl⟩
      go_wp2_with fail
      refine HB2.out.mono ?_; rintro e w3 ⟨rfl, rfl⟩
      go_wp2_with fail
      go_ret
      exact ⟨rfl, k1⟩
--
theorem madeS (n : Nat) : (madeCells (Value.cells (.string ⟨#[]⟩)) (n * 1)).toList = strCells (List.replicate n ⟨#[]⟩) := by
  rw [Nat.mul_one, show Value.cells (.string ⟨#[]⟩) = #[.string ⟨#[]⟩] from rfl, toList_madeCells_one]; simp [strCells]
theorem run_makeS (w : World) (n : Nat) (hn : n ≤ 2147483648) : ∃ w', (Instr.makeSlice 22 (.int .i64 (n : Int)) (.int .i64 (n : Int))).run Tryz.prog w = .ok (.slice (some ⟨w.heap.size, 0, none⟩) n n) w' ∧
      OwnS w' w.heap.size (.slice (some ⟨w.heap.size, 0, none⟩) n n) (List.replicate n ⟨#[]⟩) ∧ Keeps w w' := by
  obtain ⟨i0, hi, hz0, hz1, hz2⟩ := info_parts infoS
  obtain ⟨w', hr, ho, hg⟩ := run_make_full (P := Tryz.prog) w w.heap.size 22 9 i0 _ 1 Tryz.underlying22 hi hz0 hz1 .i64 .i64 n (by rw [hz2]; omega) (by unfold maxLen; omega) (Nat.le_refl _)
  refine ⟨w', hr, ?_, (Keeps.refl w).grown hg (by simp)⟩
  unfold OwnS
  rw [List.length_replicate, ← madeS]
  exact ho
set_option maxRecDepth 20000 in
set_option maxHeartbeats 1000000 in
theorem toStringS_any (a : List ByteArray) (v : Value) (w : World) (hv : Strs w v a) : Calls Tryz.prog 55 #[v] w fun e w' => ∃ v', e = .returned v' ∧ OwnS w' w.heap.size v' a ∧ Keeps w w' := by
  have hv0 := hv
  obtain ⟨p, cap, rfl, hle, hmx, hlen⟩ := hv.shape
  unfold maxLen at hmx
  obtain ⟨w1, hmk, hown, k1⟩ := run_makeS w a.length (by omega)
  have Hown := hid hown; clear hown
  have HV := hid hv0; clear hv hv0
  go_enter Tryz.func55, Tryz.ntmps55
  go_wp2
  clear hmk
  have hown := Hown.out
  go_loopw [4] (fun i' wr => ∃ (k : Nat) (xs : List ByteArray), k ≤ a.length ∧ i' = .int .i64 k ∧ xs.length = a.length ∧ xs.take k = a.take k ∧ OwnS wr w.heap.size (.slice (some ⟨w.heap.size, 0, none⟩) a.length a.length) xs ∧ Keeps w wr) (fun i _ => a.length - (intOf i).toNat)
  case atStart => exact ⟨0, _, by omega, rfl, by simp, by simp, hown, k1⟩
  case round =>
    obtain ⟨k, xs, hk, rfl, hxl, htk, hownk, kw⟩ := hrel
    have HX := hid hxl; clear hxl
    have HT := hid htk; clear htk
    clear Hown hown
    by_cases hlt : k < a.length
    · have hltx : k < xs.length := by have := HX.out; omega
      obtain ⟨b1, o1, rfl, h1⟩ := (HV.out.keeps kw).get k hlt
      have hlt' : (k : Int) < a.length := by omega
      obtain ⟨c1, c3⟩ := OwnS.cellAt (a := xs) (by rw [HX.out]; exact hownk) (List.getElem?_eq_getElem hltx)
      have h3 := (OwnS.store (a := xs) (by rw [HX.out]; exact hownk) k a[k]).1
      rw [HX.out] at h3
      have H3 := hid h3; clear h3
      have HO := hid hownk; clear hownk
      go_wp2
      go_roundw
      case rel =>
        refine ⟨k + 1, _, by omega, by go_num, ?_, ?_, H3.out, ?_⟩
        · rw [List.length_set]; exact HX.out
        · rw [take_set _ _ _ hltx, List.take_succ_eq_append_getElem hlt, HT.out]
        · exact kw.setCell (Nat.le_refl _) _
      case measure => simp [intOf]; omega
    · have hlt' : ¬ (k : Int) < a.length := by omega
      go_wp2
      go_ret
      have hx : xs = a := by
        have h1 := HX.out; have h2 := HT.out
        rw [List.take_of_length_le (by omega), List.take_of_length_le (by omega)] at h2
        exact h2
      subst hx
      exact ⟨_, rfl, hownk, kw⟩
--
set_option maxRecDepth 20000 in
theorem toModalSequent_any (a b : List ByteArray) (va vb : Value) (w : World) (hva : Strs w va a) (hvb : Strs w vb b) :
    Calls Tryz.prog 11 #[.agg #[va, vb]] w fun e w' => ∃ va' vb', e = .returned (.agg #[va', vb']) ∧ OwnQ w' w.heap.size va' vb' a b ∧ Keeps w w' := by
  obtain ⟨p, m, c, rfl⟩ := hva.shape0
  obtain ⟨q, m2, c2, rfl⟩ := hvb.shape0
  have kA := (((Keeps.refl w).alloc (.cells #[.slice p m c, .slice q m2 c2] 24)).alloc (.cells #[.slice none 0 0, .slice none 0 0] 33)).alloc (.cells #[.slice none 0 0, .slice none 0 0] 33)
  have HF := hid (toStringS_any a _ _ (hva.keeps kA))
  have HT := hid (fun w2 (k : Keeps w w2) => toStringS_any b _ w2 (hvb.keeps k))
  clear hva hvb
  go_enter Tryz.func11, Tryz.ntmps11
  go_wp2_with fail
  refine HF.out.mono ?_; rintro e w2 ⟨v2, rfl, hv2, k2⟩
  obtain ⟨p2, m3, c3, rfl⟩ := hv2.shape0
  obtain ⟨hc2, hf2⟩ := k2.both
  have hs2 := k2.size
  simp at hs2
  have g2 : w.heap.size + 1 + 1 < w2.heap.size := by omega
  have g1 : w.heap.size + 1 < w2.heap.size := by omega
  have kS := (kA.trans k2).setCell (p := ⟨w.heap.size + 1 + 1, 0, none⟩) (by simp; omega) (.slice p2 m3 c3)
  have hO := hv2.setBelow (b := w.heap.size + 1 + 1) (o := 0) (by simp) (.slice p2 m3 c3)
  have HT2 := hid (HT.out _ kS)
  clear HT
  go_wp2_with fail
  refine HT2.out.mono ?_; rintro e w3 ⟨v3, rfl, hv3, k3⟩
  have hsep : Sep (.slice p2 m3 c3) v3 := SepS.of hO hv3 (Nat.le_refl _)
  obtain ⟨p4, m4, c4, rfl⟩ := hv3.shape0
  obtain ⟨hc3, hf3⟩ := k3.both
  have hs3 := k3.size
  simp at hs3
  have g3 : w.heap.size + 1 + 1 < w3.heap.size := by omega
  go_wp2_with fail
  refine bodyPost_ret (v := .agg #[.slice p2 m3 c3, .slice p4 m4 c4]) (by simp [results, Tryz.results11, go_sem, hc2, hc3, g1]) rfl ?_
  have hO3 := hO.keeps k3
  exact ⟨_, _, rfl, ⟨(((hO3.setBelow (by simp) _).setBelow (by simp) _).setBelow (by simp) _).mono (by simp; omega), (((hv3.setBelow (by simp; omega) _).setBelow (by simp; omega) _).setBelow (by simp; omega) _).mono (by simp; omega), hsep⟩, (((kS.trans k3).setCell (by simp; omega) _).setCell (by simp) _).setCell (by simp) _⟩
--
set_option maxRecDepth 20000 in
theorem eqModalSequent_same (a b : List ByteArray) (va vb ua ub : Value) (w : World) (hva : Strs w va a) (hvb : Strs w vb b) (hua : Strs w ua a) (hub : Strs w ub b) :
    Calls Tryz.prog 14 #[.agg #[va, vb], .agg #[ua, ub]] w fun e w' => e = .returned (.bool true) ∧ Keeps w w' := by
  obtain ⟨p1, n1, c1, rfl⟩ := hva.shape0
  obtain ⟨p2, n2, c2, rfl⟩ := hvb.shape0
  obtain ⟨p3, n3, c3, rfl⟩ := hua.shape0
  obtain ⟨p4, n4, c4, rfl⟩ := hub.shape0
  have k1 := ((Keeps.refl w).alloc (.cells #[.slice p1 n1 c1, .slice p2 n2 c2] 33)).alloc (.cells #[.slice p3 n3 c3, .slice p4 n4 c4] 33)
  have HF := hid (eqStringS_same a _ _ _ (hva.keeps k1) (hua.keeps k1))
  have HE := hid (fun w2 (k : Keeps w w2) => eqStringS_same b _ _ w2 (hvb.keeps k) (hub.keeps k))
  clear hva hvb hua hub
  go_enter Tryz.func14, Tryz.ntmps14
  go_wp2_with fail
  refine HF.out.mono ?_; rintro e w2 ⟨rfl, k2⟩
  have HE2 := hid (HE.out _ (k1.trans k2))
  clear HE
  obtain ⟨hc2, hf2⟩ := k2.both
  go_wp2_with fail
  refine HE2.out.mono ?_; rintro e w3 ⟨rfl, k3⟩
  go_wp2_with fail
  go_ret
  exact ⟨rfl, k1.trans (k2.trans k3)⟩
--
set_option maxRecDepth 20000 in
theorem markQ_t (a b : List ByteArray) (va vb : Value) (k0 : Int) (w0 w : World) (B : Nat) (hv : OwnQ w0 B va vb a b) (k : Low w0 w B) (hl : a.length + b.length ≤ 100000000) (hk0 : 0 < k0) (hk1 : k0 ≤ 100000000) :
    Calls Tryz.prog 15 #[.agg #[va, vb], .int .i64 k0] w fun e w' => e = .returned (.int .i64 (k0 + a.length + b.length)) ∧ OwnQ w' B va vb (marksS a.length k0) (marksS b.length (k0 + a.length)) ∧ Touch w w' (fun i => B ≤ i ∧ i < w0.heap.size) := by
  obtain ⟨h1, h2, hs⟩ := hv
  have hl1 := h1.len
  have hl2 := h2.len
  obtain ⟨p1, n1, c1, rfl⟩ := h1.shape0
  obtain ⟨p2, n2, c2, rfl⟩ := h2.shape0
  have k1 := (Keeps.refl w).alloc (.cells #[.slice p1 n1 c1, .slice p2 n2 c2] 33)
  have hBw := k.size
  have HF := hid (markS_o a _ k0 _ B (h1.low (k.keeps k1)) (by omega) hk0 (by omega))
  have hb0 := (h2.low (k.keeps k1))
  have HO := hid hb0; clear hb0
  have HS := hid hs; clear hs
  have HL1 := hid hl1; clear hl1
  have HL2 := hid hl2; clear hl2
  have HM := hid (fun w2 (h : OwnS w2 B (.slice p2 n2 c2) b) => markS_o b _ (k0 + a.length) w2 B h (by omega) (by omega) (by omega))
  have HK := hid k; clear k
  clear h1 h2
  go_enter Tryz.func15, Tryz.ntmps15
  go_wp2_with fail
  refine HF.out.mono ?_; rintro e w2 ⟨rfl, hv2, t2⟩
  have hbx : (w.alloc (.cells #[.slice p1 n1 c1, .slice p2 n2 c2] 33)).cell? ⟨w.heap.size, 1, none⟩ = some (.slice p2 n2 c2) := by simp
  have hnb : ¬ (some w.heap.size = (Value.slice p1 n1 c1).ownBlock) := fun e => by have := HL1.out _ e.symm; omega
  have hc2 : w2.cell? ⟨w.heap.size, 1, none⟩ = some (.slice p2 n2 c2) := by rw [(t2.cell (b := w.heap.size) (by simp) hnb).1]; exact hbx
  have HB := hid (HO.out.touch t2 (fun i e1 e2 => HS.out i e2.symm e1))
  clear hbx hnb
  have HM2 := hid (HM.out _ HB.out)
  clear HM
  go_wp2_with fail
  refine HM2.out.mono ?_; rintro e w3 ⟨rfl, hv3, g3⟩
  go_wp2_with fail
  go_ret
  refine ⟨ret_int (by omega), ⟨hv2.touch g3 (fun i e1 e2 => HS.out i e1 e2.symm), hv3, HS.out⟩, ?_⟩
  refine touch_pre k1 (Touch.trans (t2.mono fun i e => HL1.out i e.symm) (g3.mono fun i e => HL2.out i e.symm))
end Go.Proofs.YtgnlfceloiilbaaGreat
