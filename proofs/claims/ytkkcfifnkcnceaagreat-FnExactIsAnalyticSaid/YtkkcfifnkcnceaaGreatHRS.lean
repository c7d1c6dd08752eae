import Derived.Test.YtkkcfifnkcnceaaGreatHGG
import Derived.Test.YtkkcfifnkcnceaaGreatHR4
/- The laws' measure of steps of modal proofs. -/
namespace Go.Proofs.YtkkcfifnkcnceaaGreat
open Go.RowKit
structure StW where
 rule : Int
 n : Nat
 a : Nat
 b : Nat
 main : ByteArray
instance : Inhabited StW := ⟨⟨0, 0, 0, 0, ⟨#[]⟩⟩⟩
def StW.cost (x : StW) : Nat := x.n + x.a + x.b + x.main.size
def StRw (w : World) (f : Nat → Value) (x : StW) : Prop :=
 f 0 = .int .i64 x.rule ∧ (∃ p c, f 1 = .slice p x.n c ∧ x.n ≤ maxLen ∧ (x.n ≤ 2147483648 → ∃ a : List Int, a.length = x.n ∧ Ints w (f 1) a)) ∧
  (SzS w (f 2) x.a ∧ ∃ p n c, f 2 = .slice p n c) ∧ (SzS w (f 3) x.b ∧ ∃ p n c, f 3 = .slice p n c) ∧ f 4 = .string x.main ∧ x.main.size ≤ maxLen
theorem StRw.stays : Stays StRw := fun _ _ _ _ k h => ⟨h.1, by
 obtain ⟨p, c, e, h1, h2⟩ := h.2.1
 exact ⟨p, c, e, h1, fun hn => by obtain ⟨a, h3, h4⟩ := h2 hn; exact ⟨a, h3, h4.keeps k⟩⟩, ⟨h.2.2.1.1.keeps k, h.2.2.1.2⟩, ⟨h.2.2.2.1.1.keeps k, h.2.2.2.1.2⟩, h.2.2.2.2⟩
def StLw (w : World) (v : Value) (xs : List StW) : Prop := SlC 5 StRw w v xs
theorem StLw.keeps {w w' : World} {v : Value} {xs : List StW} (h : StLw w v xs) (k : Keeps w w') : StLw w' v xs := SlC.keeps StRw.stays h k
theorem StLw.shape {w : World} {v : Value} {xs : List StW} (h : StLw w v xs) : ∃ p cap, v = .slice p xs.length cap ∧ xs.length ≤ cap ∧ cap ≤ maxLen ∧ xs.length ≤ 2147483648 := by
 obtain ⟨p, cap, hv, h1, h2, h3, _⟩ := h
 exact ⟨p, cap, hv, h1, h2, h3⟩
theorem StLw.get {w : World} {p : Option Addr} {n cap : Nat} {xs : List StW} (h : StLw w (.slice p n cap) xs) (i : Nat) (hi : i < xs.length) :
  ∃ b off p1 c1 p2 n2 c2 p3 n3 c3, p = some ⟨b, off, none⟩ ∧ (w.cell? ⟨b, off + i * 5, none⟩ = some (.int .i64 xs[i].rule) ∧ w.cell? ⟨b, off + i * 5 + 1, none⟩ = some (.slice p1 xs[i].n c1) ∧ w.cell? ⟨b, off + i * 5 + 2, none⟩ = some (.slice p2 n2 c2) ∧ w.cell? ⟨b, off + i * 5 + 3, none⟩ = some (.slice p3 n3 c3) ∧ w.cell? ⟨b, off + i * 5 + 4, none⟩ = some (.string xs[i].main)) ∧
   xs[i].n ≤ maxLen ∧ SzS w (.slice p2 n2 c2) xs[i].a ∧ SzS w (.slice p3 n3 c3) xs[i].b ∧ xs[i].main.size ≤ maxLen := by
 obtain ⟨p', cap', hv, h1, h2, h3, h4⟩ := h
 cases hv
 obtain ⟨b, off, f, hp, hc, e0, ⟨p1, c1, e1, hm, _⟩, ⟨hr2, p2, n2, c2, e2⟩, ⟨hr3, p3, n3, c3, e3⟩, e4, hm4⟩ := h4 i hi
 have a0 := hc 0 (by omega)
 have a1 := hc 1 (by omega)
 have a2 := hc 2 (by omega)
 have a3 := hc 3 (by omega)
 have a4 := hc 4 (by omega)
 rw [e0] at a0
 rw [e1] at a1
 rw [e2] at a2 hr2
 rw [e3] at a3 hr3
 rw [e4] at a4
 exact ⟨b, off, p1, c1, p2, n2, c2, p3, n3, c3, hp, ⟨a0, a1, a2, a3, a4⟩, hm, hr2, hr3, hm4⟩
def totW (xs : List StW) : Nat := (xs.map StW.cost).sum
theorem totW_snoc (xs : List StW) (k : Nat) (h : k < xs.length) : totW (xs.take (k + 1)) = totW (xs.take k) + xs[k].cost := by
 unfold totW; rw [List.take_succ_eq_append_getElem h, List.map_append, List.sum_append]; simp
theorem totW_le (xs : List StW) (k : Nat) : totW (xs.take k) ≤ totW xs := by
 have h : xs.take k ++ xs.drop k = xs := List.take_append_drop k xs
 have : totW xs = totW (xs.take k) + totW (xs.drop k) := by
  conv => lhs; rw [← h]
  unfold totW; rw [List.map_append, List.sum_append]
 omega
theorem totW_mem (xs : List StW) (k : Nat) (h : k < xs.length) : xs[k].cost ≤ totW xs := by
 have h1 := totW_snoc xs k h
 have h2 := totW_le xs (k + 1)
 omega
def szW (xs : List StW) : Nat := xs.length + totW xs
def StRr (w : World) (f : Nat → Value) (x : StT) : Prop := f 0 = .int .i64 x.rule ∧ Ints w (f 1) x.pr ∧ Strs w (f 2) x.l ∧ Strs w (f 3) x.r ∧ f 4 = .string x.main
theorem StRr.stays : Stays StRr := fun _ _ _ _ k h => ⟨h.1, h.2.1.keeps k, h.2.2.1.keeps k, h.2.2.2.1.keeps k, h.2.2.2.2⟩
def StLr (w : World) (v : Value) (xs : List StT) : Prop := SlC 5 StRr w v xs
theorem StLr.keeps {w w' : World} {v : Value} {xs : List StT} (h : StLr w v xs) (k : Keeps w w') : StLr w' v xs := SlC.keeps StRr.stays h k
theorem StLw.read {w : World} {v : Value} {xs : List StW} (h : StLw w v xs) (hz : szW xs ≤ 1048576) : ∃ steps : List StT, StLr w v steps ∧ MidSt steps ∧ steps.length ≤ 1048576 := by
 obtain ⟨p, cap, hv, h1, h2, h3, h4⟩ := h
 unfold szW at hz
 have hall : ∀ i, i < xs.length → ∃ x : StT, (∃ b off f, p = some ⟨b, off, none⟩ ∧ (∀ c, c < 5 → w.cell? ⟨b, off + i * 5 + c, none⟩ = some (f c)) ∧ StRr w f x) ∧ Mid x.l ∧ Mid x.r ∧ x.main.size ≤ 10000000 := fun i hi => by
  obtain ⟨b, off, f, hp, hc, e0, ⟨p1, c1, e1, hm, hI⟩, ⟨hr2, _⟩, ⟨hr3, _⟩, e4, hm4⟩ := h4 i hi
  have ht := totW_mem xs i hi
  unfold StW.cost at ht
  obtain ⟨a, _, ha⟩ := hI (by omega)
  obtain ⟨ss, e5, hs⟩ := hr2.2 (by omega)
  obtain ⟨tt, e6, ht2⟩ := hr3.2 (by omega)
  exact ⟨⟨xs[i].rule, a, ss, tt, xs[i].main⟩, ⟨b, off, f, hp, hc, e0, ha, hs, ht2, e4⟩, (fun s h => by have := szB_mem (ss := ss) h; omega), (fun s h => by have := szB_mem (ss := tt) h; omega), (by show xs[i].main.size ≤ 10000000; omega)⟩
 classical
 have hch : ∀ i, ∃ x : StT, i < xs.length → ((∃ b off f, p = some ⟨b, off, none⟩ ∧ (∀ c, c < 5 → w.cell? ⟨b, off + i * 5 + c, none⟩ = some (f c)) ∧ StRr w f x) ∧ Mid x.l ∧ Mid x.r ∧ x.main.size ≤ 10000000) := fun i => by
  by_cases hi : i < xs.length
  ·obtain ⟨x, hx⟩ := hall i hi
   exact ⟨x, fun _ => hx⟩
  ·exact ⟨default, fun h => absurd h hi⟩
 obtain ⟨g, hg⟩ := Classical.axiomOfChoice hch
 refine ⟨(List.range xs.length).map g, ⟨p, cap, by rw [hv]; simp, by simpa using h1, h2, by simpa using h3, fun i hi => ?_⟩, fun x hx => ?_, by simp; omega⟩
 ·have hi' : i < xs.length := by simpa using hi
  have := (hg i hi').1
  simpa using this
 ·obtain ⟨i, hi, rfl⟩ := List.mem_map.1 hx
  exact (hg i (List.mem_range.1 hi)).2
set_option maxRecDepth 20000 in
set_option maxHeartbeats 2000000 in
theorem szModalStep_any (x : StW) (p : Option Addr) (c : Nat) (l q : Value) (left : Int) (w : World) (hn : x.n ≤ maxLen) (ha : SzS w l x.a) (hb : SzS w q x.b) (hsa : ∃ p n c, l = .slice p n c) (hsb : ∃ p n c, q = .slice p n c) (hm : x.main.size ≤ maxLen) (h0 : 0 ≤ left) (h1 : left ≤ 1048576) :
  Calls Tryz.prog 38 #[.agg #[.int .i64 x.rule, .slice p x.n c, l, q, .string x.main], .int .i64 left] w fun e w' => e = .returned (.int .i64 (if left < x.cost then -1 else left - x.cost)) ∧ Keeps w w' := by
 have k1 := (Keeps.refl w).alloc (.cells #[.int .i64 x.rule, .slice p x.n c, l, q, .string x.main] 64)
 have HP := hid (fun wz => szInt64S_any p x.n c left wz hn h0 h1)
 have HA := hid (fun i h2 h3 => ha.1 _ i k1 h2 h3)
 have HB := hid (fun i h2 h3 => hb.1 _ i k1 h2 h3)
 have HC : Hid ((x.cost : Int) = x.n + x.a + x.b + x.main.size) := hid (by unfold StW.cost; push_cast; rfl)
 obtain ⟨p2, n2, c2, rfl⟩ := hsa
 obtain ⟨p3, n3, c3, rfl⟩ := hsb
 clear ha hb
 obtain ⟨r, hr⟩ : ∃ r : Int, (if left < x.cost then -1 else left - x.cost) = r := ⟨_, rfl⟩
 rw [hr]
 have HR1 : Hid (left < x.cost → r = -1) := hid (fun h => by rw [← hr, if_pos h])
 have HR2 : Hid (¬ left < x.cost → r = left - x.cost) := hid (fun h => by rw [← hr, if_neg h])
 clear hr
 unfold maxLen at hm hn
 generalize (x.cost : Int) = C at *
 generalize x.rule = rl at *
 generalize x.n = n at *
 generalize x.a = A at *
 generalize x.b = B at *
 generalize x.main = s at *
 by_cases g1 : left < n
 ·rw [if_pos g1] at HP
  have hr := HR1.out (by have := HC.out; omega)
  subst hr
  clear HR1 HR2 HA HB
  go_enter Tryz.func38, Tryz.ntmps38
  go_wp2_with fail
  refine (HP.out _).mono ?_; rintro e w2 ⟨rfl, rfl⟩
  go_wp2_with fail
  go_ret
  exact ⟨rfl, k1⟩
 ·rw [if_neg g1] at HP
  have q1 : ¬ (left - n < 0) := by omega
  have HA2 := hid (HA.out (left - n) (by omega) (by omega))
  by_cases g2 : left - n < A
  ·rw [if_pos g2] at HA2
   have hr := HR1.out (by have := HC.out; omega)
   subst hr
   clear HR1 HR2 HA HB
   go_enter Tryz.func38, Tryz.ntmps38
   go_wp2_with fail
   refine (HP.out _).mono ?_; rintro e w2 ⟨rfl, rfl⟩
   go_wp2_with fail
   refine HA2.out.mono ?_; rintro e w2 ⟨rfl, rfl⟩
   go_wp2_with fail
   go_ret
   exact ⟨rfl, k1⟩
  ·rw [if_neg g2] at HA2
   have q2 : ¬ (left - n - A < 0) := by omega
   have HB2 := hid (HB.out (left - n - A) (by omega) (by omega))
   by_cases g3 : left - n - A < B
   ·rw [if_pos g3] at HB2
    have hr := HR1.out (by have := HC.out; omega)
    subst hr
    clear HR1 HR2 HA HB
    go_enter Tryz.func38, Tryz.ntmps38
    go_wp2_with fail
    refine (HP.out _).mono ?_; rintro e w2 ⟨rfl, rfl⟩
    go_wp2_with fail
    refine HA2.out.mono ?_; rintro e w2 ⟨rfl, rfl⟩
    go_wp2_with fail
    refine HB2.out.mono ?_; rintro e w2 ⟨rfl, rfl⟩
    go_wp2_with fail
    go_ret
    exact ⟨rfl, k1⟩
   ·rw [if_neg g3] at HB2
    have q3 : ¬ (left - n - A - B < 0) := by omega
    have u1 : 0 ≤ left - n - A - B := by omega
    have u2 : left - n - A - B ≤ 1048576 := by omega
    by_cases g4 : left - n - A - B - s.size < 0
    ·have hr := HR1.out (by have := HC.out; omega)
     subst hr
     clear HR1 HR2 HA HB
     go_enter Tryz.func38, Tryz.ntmps38
     go_wp2_with fail
     refine (HP.out _).mono ?_; rintro e w2 ⟨rfl, rfl⟩
     go_wp2_with fail
     refine HA2.out.mono ?_; rintro e w2 ⟨rfl, rfl⟩
     go_wp2_with fail
     refine HB2.out.mono ?_; rintro e w2 ⟨rfl, rfl⟩
     go_wp2_with fail
     go_ret
     exact ⟨rfl, k1⟩
    ·have hr := HR2.out (by have := HC.out; omega)
     have HR : Hid (left - n - A - B - s.size = r) := hid (by have := HC.out; omega)
     clear HR1 HR2 HA HB hr
     go_enter Tryz.func38, Tryz.ntmps38
     go_wp2_with fail
     refine (HP.out _).mono ?_; rintro e w2 ⟨rfl, rfl⟩
     go_wp2_with fail
     refine HA2.out.mono ?_; rintro e w2 ⟨rfl, rfl⟩
     go_wp2_with fail
     refine HB2.out.mono ?_; rintro e w2 ⟨rfl, rfl⟩
     go_wp2_with fail
     go_ret
     exact ⟨ret_int HR.out, k1⟩
set_option maxRecDepth 20000 in
set_option maxHeartbeats 2000000 in
theorem szModalStepS_any (xs : List StW) (v : Value) (left : Int) (w : World) (hv : StLw w v xs) (h0 : 0 ≤ left) (h1 : left ≤ 1048576) :
  Calls Tryz.prog 13 #[v, .int .i64 left] w fun e w' => e = .returned (.int .i64 (if left < szW xs then -1 else left - szW xs)) ∧ Keeps w w' := by
 obtain ⟨p, cap, rfl, hle, hmx, hlen⟩ := hv.shape
 unfold maxLen at hmx
 have HV := hid hv; clear hv
 have HD : Hid (szW xs = xs.length + totW xs) := hid rfl
 have HT0 : Hid (totW (xs.take 0) = 0) := hid rfl
 have HTE : Hid (totW (xs.take xs.length) = totW xs) := hid (by rw [List.take_length])
 have HTS := hid (totW_snoc xs)
 have HTL := hid (totW_le xs)
 generalize szW xs = sz at *
 obtain ⟨r, hr⟩ : ∃ r : Int, (if left < sz then -1 else left - sz) = r := ⟨_, rfl⟩
 rw [hr]
 have HR1 : Hid (left < sz → r = -1) := hid (fun h => by rw [← hr, if_pos h])
 have HR2 : Hid (¬ left < sz → r = left - sz) := hid (fun h => by rw [← hr, if_neg h])
 clear hr
 by_cases hl : left < xs.length
 ·obtain rfl : r = -1 := HR1.out (by have := HD.out; omega)
  clear HR1 HR2
  have hl' : left - xs.length < 0 := by omega
  go_enter Tryz.func13, Tryz.ntmps13
  go_wp2
  go_ret
  exact ⟨rfl, Keeps.refl w⟩
 ·have hl' : ¬ (left - xs.length < 0) := by omega
  go_enter Tryz.func13, Tryz.ntmps13
  go_wp2
  go_loopw [1, 4, 5] (fun c r i' wr => ∃ k : Nat, k ≤ xs.length ∧ i' = .int .i64 k ∧ c = .int .i64 (left - xs.length - totW (xs.take k)) ∧ r = .int .i64 0 ∧ (totW (xs.take k) : Int) ≤ left - xs.length ∧ Keeps w wr) (fun _ _ i _ => xs.length - (intOf i).toNat)
  case atStart => exact ⟨0, by omega, rfl, by rw [HT0.out]; simp, rfl, by rw [HT0.out]; omega, Keeps.refl w⟩
  case round =>
   obtain ⟨k, hk, rfl, rfl, rfl, hb, kw⟩ := hrel
   by_cases hlt : k < xs.length
   ·have hlt' : (k : Int) < xs.length := by omega
    obtain ⟨b, o, p1, c1, p2, n2, c2, p3, n3, c3, rfl, ⟨z0, z1, z2, z3, z4⟩, hn1, ha, hbb, hm1⟩ := (HV.out.keeps kw).get k hlt
    have hs := HTS.out k hlt
    have hs2 := HTL.out (k + 1)
    have HS := hid hs; clear hs
    have hq0 : 0 ≤ left - xs.length - totW (xs.take k) := by omega
    have hq1 : left - xs.length - totW (xs.take k) ≤ 1048576 := by omega
    have HC := hid (szModalStep_any xs[k] p1 c1 _ _ (left - xs.length - totW (xs.take k)) wr hn1 ha hbb ⟨_, _, _, rfl⟩ ⟨_, _, _, rfl⟩ hm1 hq0 hq1)
    clear ha hbb hn1 hm1
    generalize totW (xs.take k) = t at *
    generalize xs[k].cost = co at *
    generalize xs[k].rule = rl at *
    generalize xs[k].n = nn at *
    generalize xs[k].main = mm at *
    by_cases hlx : left - xs.length - t < co
    ·rw [if_pos hlx] at HC
     have hx : r = -1 := HR1.out (by have hx := HD.out; have hx2 := HS.out; omega)
     have HRR := hid hx; clear hx HR1 HR2
     go_wp2_with fail
     refine HC.out.mono ?_; rintro e w2 ⟨rfl, k2⟩
     go_wp2_with fail
     go_ret
     exact ⟨ret_int (by rw [HRR.out]), kw.trans k2⟩
    ·rw [if_neg hlx] at HC
     have hx0 : ¬ (left - xs.length - t - co < 0) := by omega
     go_wp2_with fail
     refine HC.out.mono ?_; rintro e w2 ⟨rfl, k2⟩
     go_wp2_with fail
     go_roundw
     case rel => exact ⟨k + 1, by omega, by go_num, by rw [HS.out]; first | (push_cast; go_num) | (congr 1; omega) | go_num, rfl, by rw [HS.out]; push_cast; omega, kw.trans k2⟩
     case measure => simp [intOf]; omega
   ·obtain rfl : k = xs.length := by omega
    have hlt' : ¬ ((xs.length : Int) < xs.length) := by omega
    rw [HTE.out] at hb ⊢
    have hx : r = left - xs.length - (totW xs : Int) := by
     rw [HR2.out (by have := HD.out; omega), HD.out]; push_cast; omega
    have HRR := hid hx; clear hx HR1 HR2
    go_wp2
    go_ret
    exact ⟨ret_int (by rw [HRR.out]), kw⟩
theorem szModalStepS_big (p : Option Addr) (n cap : Nat) (left : Int) (w : World) (hn : n ≤ maxLen) (h0 : 0 ≤ left) (h1 : left ≤ 1048576) (hl : left < n) :
  Calls Tryz.prog 13 #[.slice p n cap, .int .i64 left] w fun e w' => e = .returned (.int .i64 (-1)) ∧ w = w' := by
 unfold maxLen at hn
 have hl' : left - n < 0 := by omega
 go_enter Tryz.func13, Tryz.ntmps13
 go_wp2
 go_ret
 exact ⟨rfl, rfl⟩
end Go.Proofs.YtkkcfifnkcnceaaGreat
namespace Go.Proofs.YtkkcfifnkcnceaaGreat
open Go.RowKit
theorem BoxG.c5 {w : World} {r : Nat} {T : TypeId} {a b c d e : Value} (h : BoxG w r T [a, b, c, d, e]) : (w.cell? ⟨r, 0, none⟩ = some a ∧ w.cell? ⟨r, 1, none⟩ = some b ∧ w.cell? ⟨r, 2, none⟩ = some c ∧ w.cell? ⟨r, 3, none⟩ = some d ∧ w.cell? ⟨r, 4, none⟩ = some e) ∧ (∀ i, w.frozen? ⟨r, i, none⟩ = false) :=
 ⟨⟨h.cell 0 (by simp), h.cell 1 (by simp), h.cell 2 (by simp), h.cell 3 (by simp), h.cell 4 (by simp)⟩, h.froz⟩
theorem keeps_set5 {w w' : World} {r : Nat} (k : Keeps w w') (hr : w.heap.size ≤ r) (a b c d e : Value) : Keeps w (((((w'.setCell ⟨r, 0, none⟩ a).setCell ⟨r, 1, none⟩ b).setCell ⟨r, 2, none⟩ c).setCell ⟨r, 3, none⟩ d).setCell ⟨r, 4, none⟩ e) :=
 ((((k.setCell hr a).setCell hr b).setCell hr c).setCell hr d).setCell hr e
set_option maxRecDepth 20000 in
set_option maxHeartbeats 4000000 in
theorem toModalStep_any (x : StT) (p l q : Value) (w : World) (hp : Ints w p x.pr) (hl : Strs w l x.l) (hr : Strs w q x.r) :
  Calls Tryz.prog 43 #[.agg #[.int .i64 x.rule, p, l, q, .string x.main]] w fun e w' => ∃ p' l' q', e = .returned (.agg #[.int .i64 x.rule, p', l', q', .string x.main]) ∧ OwnI w' w.heap.size p' x.pr ∧ OwnS w' w.heap.size l' x.l ∧ OwnS w' w.heap.size q' x.r ∧ Keeps w w' := by
 obtain ⟨p1, c1, rfl, _⟩ := hp.sh5
 obtain ⟨p2, n2, c2, rfl⟩ := hl.shape0
 obtain ⟨p3, n3, c3, rfl⟩ := hr.shape0
 have kA := (Keeps.refl w).alloc (.cells #[.int .i64 x.rule, .slice p1 x.pr.length c1, .slice p2 n2 c2, .slice p3 n3 c3, .string x.main] 64)
 have b0 := BoxG.made w 64 [.int .i64 x.rule, .slice p1 x.pr.length c1, .slice p2 n2 c2, .slice p3 n3 c3, .string x.main] (by simp) (by simp)
 have hz1 : (w.alloc (.cells #[.int .i64 x.rule, .slice p1 x.pr.length c1, .slice p2 n2 c2, .slice p3 n3 c3, .string x.main] 64)).heap.size = w.heap.size + 1 := by simp
 have b1 := BoxG.made (w.alloc (.cells #[.int .i64 x.rule, .slice p1 x.pr.length c1, .slice p2 n2 c2, .slice p3 n3 c3, .string x.main] 64)) 68 [.int .i64 0, .slice none 0 0, .slice none 0 0, .slice none 0 0, .string ⟨#[]⟩] (by simp) (by simp)
 have kB := (Keeps.refl (w.alloc (.cells #[.int .i64 x.rule, .slice p1 x.pr.length c1, .slice p2 n2 c2, .slice p3 n3 c3, .string x.main] 64))).alloc (.cells #[.int .i64 0, .slice none 0 0, .slice none 0 0, .slice none 0 0, .string ⟨#[]⟩] 68)
 rw [hz1] at b1
 have hz2 : ((w.alloc (.cells #[.int .i64 x.rule, .slice p1 x.pr.length c1, .slice p2 n2 c2, .slice p3 n3 c3, .string x.main] 64)).alloc (.cells #[.int .i64 0, .slice none 0 0, .slice none 0 0, .slice none 0 0, .string ⟨#[]⟩] 68)).heap.size = w.heap.size + 1 + 1 := by simp
 have b2 := BoxG.made ((w.alloc (.cells #[.int .i64 x.rule, .slice p1 x.pr.length c1, .slice p2 n2 c2, .slice p3 n3 c3, .string x.main] 64)).alloc (.cells #[.int .i64 0, .slice none 0 0, .slice none 0 0, .slice none 0 0, .string ⟨#[]⟩] 68)) 68 [.int .i64 x.rule, .slice none 0 0, .slice none 0 0, .slice none 0 0, .string ⟨#[]⟩] (by simp) (by simp)
 have kC := (Keeps.refl ((w.alloc (.cells #[.int .i64 x.rule, .slice p1 x.pr.length c1, .slice p2 n2 c2, .slice p3 n3 c3, .string x.main] 64)).alloc (.cells #[.int .i64 0, .slice none 0 0, .slice none 0 0, .slice none 0 0, .string ⟨#[]⟩] 68))).alloc (.cells #[.int .i64 x.rule, .slice none 0 0, .slice none 0 0, .slice none 0 0, .string ⟨#[]⟩] 68)
 rw [hz2] at b2
 have KA := (kA.trans kB).trans kC
 have B0 := b0.keeps (kB.trans kC)
 have B1 := b1.keeps kC
 have hz3 : (((w.alloc (.cells #[.int .i64 x.rule, .slice p1 x.pr.length c1, .slice p2 n2 c2, .slice p3 n3 c3, .string x.main] 64)).alloc (.cells #[.int .i64 0, .slice none 0 0, .slice none 0 0, .slice none 0 0, .string ⟨#[]⟩] 68)).alloc (.cells #[.int .i64 x.rule, .slice none 0 0, .slice none 0 0, .slice none 0 0, .string ⟨#[]⟩] 68)).heap.size = w.heap.size + 3 := by simp
 have HP := hid (fun w2 (k : Keeps w w2) => toInt64S_any x.pr _ w2 (hp.keeps k))
 have HL := hid (fun w2 (k : Keeps w w2) => toStringS_any x.l _ w2 (hl.keeps k))
 have HR := hid (fun w2 (k : Keeps w w2) => toStringS_any x.r _ w2 (hr.keeps k))
 clear hp hl hr kA kB kC b0 b1 hz1 hz2
 go_enter Tryz.func43, Tryz.ntmps43
 go_wp2_with fail
 generalize ((w.alloc (.cells #[.int .i64 x.rule, .slice p1 x.pr.length c1, .slice p2 n2 c2, .slice p3 n3 c3, .string x.main] 64)).alloc (.cells #[.int .i64 0, .slice none 0 0, .slice none 0 0, .slice none 0 0, .string ⟨#[]⟩] 68)).alloc (.cells #[.int .i64 x.rule, .slice none 0 0, .slice none 0 0, .slice none 0 0, .string ⟨#[]⟩] 68) = wA at *
 have HZ := hid hz3
 refine (HP.out wA KA).mono ?_; rintro e w2 ⟨v1, rfl, hv1, k2⟩
 obtain ⟨q1, m1, d1, rfl⟩ := hv1.shape0
 have HB0 := hid (B0.keeps k2)
 have HB1 := hid (B1.keeps k2)
 have HB2 := hid (b2.keeps k2)
 have hS2 := hid (Nat.le_trans (Nat.le_of_eq hz3.symm) k2.size)
 have K2 := KA.trans k2
 clear B0 B1 b2 hz3 KA k2 HP
 obtain ⟨⟨x0, x1, x2, x3, x4⟩, _⟩ := HB0.out.c5
 obtain ⟨⟨y0, y1, y2, y3, y4⟩, yf⟩ := HB2.out.c5
 have hv1' := hv1.setBelow (b := w.heap.size + 1 + 1) (o := 1) (by have := HZ.out; omega) (.slice q1 m1 d1)
 have HB0' := hid (HB0.out.next HB2.out (by omega) (i := 1) (x := .slice q1 m1 d1))
 have HB1' := hid (HB1.out.next HB2.out (by omega) (i := 1) (x := .slice q1 m1 d1))
 have HB2' := hid (HB2.out.set 1 (.slice q1 m1 d1))
 have K2' := K2.setCell (p := ⟨w.heap.size + 1 + 1, 1, none⟩) (by show w.heap.size ≤ w.heap.size + 1 + 1; omega) (.slice q1 m1 d1)
 have hS2' : Hid (w.heap.size + 3 ≤ (w2.setCell ⟨w.heap.size + 1 + 1, 1, none⟩ (.slice q1 m1 d1)).heap.size) := hid (by simpa using hS2.out)
 clear hv1 K2
 go_wp2_with fail
 generalize w2.setCell ⟨w.heap.size + 1 + 1, 1, none⟩ (.slice q1 m1 d1) = w3 at *
 clear HB0 HB1 HB2 x0 x1 x2 x3 x4 y0 y1 y2 y3 y4 yf hS2
 refine (HL.out w3 K2').mono ?_; rintro e w4 ⟨v2, rfl, hv2, k4⟩
 obtain ⟨q2, m2, d2, rfl⟩ := hv2.shape0
 have HB0 := hid (HB0'.out.keeps k4)
 have HB1 := hid (HB1'.out.keeps k4)
 have HB2 := hid (HB2'.out.keeps k4)
 simp only [List.set_cons_succ, List.set_cons_zero] at HB2
 have hS4 := hid (Nat.le_trans hS2'.out k4.size)
 have K4 := K2'.trans k4
 have hv1 := hv1'.keeps k4
 clear HB0' HB1' HB2' K2' k4 hv1' HL
 obtain ⟨⟨x0, x1, x2, x3, x4⟩, _⟩ := HB0.out.c5
 obtain ⟨⟨y0, y1, y2, y3, y4⟩, yf⟩ := HB2.out.c5
 have hv1' := hv1.setBelow (b := w.heap.size + 1 + 1) (o := 2) (by have := HZ.out; omega) (.slice q2 m2 d2)
 have hv2' := hv2.setBelow (b := w.heap.size + 1 + 1) (o := 2) (by have := hS2'.out; omega) (.slice q2 m2 d2)
 have HB0' := hid (HB0.out.next HB2.out (by omega) (i := 2) (x := .slice q2 m2 d2))
 have HB1' := hid (HB1.out.next HB2.out (by omega) (i := 2) (x := .slice q2 m2 d2))
 have HB2' := hid (HB2.out.set 2 (.slice q2 m2 d2))
 have K4' := K4.setCell (p := ⟨w.heap.size + 1 + 1, 2, none⟩) (by show w.heap.size ≤ w.heap.size + 1 + 1; omega) (.slice q2 m2 d2)
 have hS4' : Hid (w.heap.size + 3 ≤ (w4.setCell ⟨w.heap.size + 1 + 1, 2, none⟩ (.slice q2 m2 d2)).heap.size) := hid (by simpa using hS4.out)
 clear hv1 hv2 K4
 go_wp2_with fail
 generalize w4.setCell ⟨w.heap.size + 1 + 1, 2, none⟩ (.slice q2 m2 d2) = w5 at *
 clear HB0 HB1 HB2 x0 x1 x2 x3 x4 y0 y1 y2 y3 y4 yf hS4
 refine (HR.out w5 K4').mono ?_; rintro e w6 ⟨v3, rfl, hv3, k6⟩
 obtain ⟨q3, m3, d3, rfl⟩ := hv3.shape0
 have HB0 := hid (HB0'.out.keeps k6)
 have HB1 := hid (HB1'.out.keeps k6)
 have HB2 := hid (HB2'.out.keeps k6)
 simp only [List.set_cons_succ, List.set_cons_zero] at HB2
 have K6 := K4'.trans k6
 have hv1 := hv1'.keeps k6
 have hv2 := hv2'.keeps k6
 clear HB0' HB1' HB2' K4' k6 hv1' hv2' HR
 obtain ⟨⟨x0, x1, x2, x3, x4⟩, _⟩ := HB0.out.c5
 obtain ⟨⟨y0, y1, y2, y3, y4⟩, yf⟩ := HB2.out.c5
 obtain ⟨⟨u0, u1, u2, u3, u4⟩, uf⟩ := HB1.out.c5
 have hne : ¬ (w.heap.size = w.heap.size + 1 + 1) := by omega
 have hv1' := (hv1.setBelow (b := w.heap.size + 1 + 1) (o := 3) (by have := HZ.out; omega) (.slice q3 m3 d3)).setBelow (b := w.heap.size + 1 + 1) (o := 4) (by have := HZ.out; omega) (.string x.main)
 have hv2' := (hv2.setBelow (b := w.heap.size + 1 + 1) (o := 3) (by have := hS2'.out; omega) (.slice q3 m3 d3)).setBelow (b := w.heap.size + 1 + 1) (o := 4) (by have := hS2'.out; omega) (.string x.main)
 have hv3' := (hv3.setBelow (b := w.heap.size + 1 + 1) (o := 3) (by have := hS4'.out; omega) (.slice q3 m3 d3)).setBelow (b := w.heap.size + 1 + 1) (o := 4) (by have := hS4'.out; omega) (.string x.main)
 have hb2a := HB2.out.set 3 (.slice q3 m3 d3)
 simp only [List.set_cons_succ, List.set_cons_zero] at hb2a
 have hb1a := (HB1.out.next HB2.out (by omega) (i := 3) (x := .slice q3 m3 d3)).next hb2a (by omega) (i := 4) (x := .string x.main)
 have HB1' := hid hb1a
 have hb2b := hb2a.set 4 (.string x.main)
 simp only [List.set_cons_succ, List.set_cons_zero] at hb2b
 have HB2' := hid hb2b
 have K6' := (K6.setCell (p := ⟨w.heap.size + 1 + 1, 3, none⟩) (by show w.heap.size ≤ w.heap.size + 1 + 1; omega) (.slice q3 m3 d3)).setCell (p := ⟨w.heap.size + 1 + 1, 4, none⟩) (by show w.heap.size ≤ w.heap.size + 1 + 1; omega) (.string x.main)
 clear hb1a hb2a hb2b hv1 hv2 hv3 K6
 go_upto_region 7 with fail
 generalize (w6.setCell ⟨w.heap.size + 1 + 1, 3, none⟩ (.slice q3 m3 d3)).setCell ⟨w.heap.size + 1 + 1, 4, none⟩ (.string x.main) = w7 at *
 clear HB0 HB1 HB2 x0 x1 x2 x3 x4 y0 y1 y2 y3 y4 yf u0 u1 u2 u3 u4 uf
 obtain ⟨⟨y0, y1, y2, y3, y4⟩, yf⟩ := HB2'.out.c5
 obtain ⟨⟨u0, u1, u2, u3, u4⟩, uf⟩ := HB1'.out.c5
 go_wp2_with fail
 refine bodyPost_ret (v := .agg #[.int .i64 x.rule, .slice q1 m1 d1, .slice q2 m2 d2, .slice q3 m3 d3, .string x.main]) (by simp [results, Tryz.results43, go_sem, u0, u1, u2, u3, u4]) rfl ?_
 have g1 : w.heap.size + 1 < wA.heap.size := by have := HZ.out; omega
 have g2 : w.heap.size + 1 < w3.heap.size := by have := hS2'.out; omega
 have g3 : w.heap.size + 1 < w5.heap.size := by have := hS4'.out; omega
 refine ⟨_, _, _, rfl, ?_, ?_, ?_, keeps_set5 K6' (by omega) _ _ _ _ _⟩
 ·exact (((((hv1'.setBelow g1 _).setBelow g1 _).setBelow g1 _).setBelow g1 _).setBelow g1 _).mono (by omega)
 ·exact (((((hv2'.setBelow g2 _).setBelow g2 _).setBelow g2 _).setBelow g2 _).setBelow g2 _).mono (by omega)
 ·exact (((((hv3'.setBelow g3 _).setBelow g3 _).setBelow g3 _).setBelow g3 _).setBelow g3 _).mono (by omega)
theorem infoT5 : (Tryz.prog.info? 68).map (fun i => (i.zero, i.size, i.bytes)) = some (some (.agg #[.int .i64 0, .slice none 0 0, .slice none 0 0, .slice none 0 0, .string ⟨#[]⟩]), 5, 96) := by kernel_rfl
def OwnT (w : World) (g n : Nat) (cs : List Value) (k : Nat) (xs : List StT) : Prop :=
 w.ownsRow g 68 5 (.slice (some ⟨g, 0, none⟩) n n) n cs ∧ cs.length = n * 5 ∧
  ∀ j (h : j < xs.length), j < k → ∃ p l q, cs[j * 5]? = some (.int .i64 xs[j].rule) ∧ cs[j * 5 + 1]? = some p ∧ cs[j * 5 + 2]? = some l ∧ cs[j * 5 + 3]? = some q ∧ cs[j * 5 + 4]? = some (.string xs[j].main) ∧ OwnI w (g + 1) p xs[j].pr ∧ OwnS w (g + 1) l xs[j].l ∧ OwnS w (g + 1) q xs[j].r
theorem run_makeT (w : World) (n : Nat) (hn : n ≤ 1048576) (xs : List StT) : ∃ w' cs, (Instr.makeSlice 39 (.int .i64 (n : Int)) (.int .i64 (n : Int))).run Tryz.prog w = .ok (.slice (some ⟨w.heap.size, 0, none⟩) n n) w' ∧
   OwnT w' w.heap.size n cs 0 xs ∧ Keeps w w' := by
 obtain ⟨i0, hi, hz0, hz1, hz2⟩ := info_parts infoT5
 obtain ⟨w', hr, ho, hg⟩ := run_make_full (P := Tryz.prog) w w.heap.size 39 68 i0 _ 5 Tryz.underlying39 hi hz0 hz1 .i64 .i64 n (by rw [hz2]; omega) (by unfold maxLen; omega) (Nat.le_refl _)
 exact ⟨w', _, hr, ⟨ho, by simp [madeCells], fun j _ h => by omega⟩, (Keeps.refl w).grown hg (by simp)⟩
theorem OwnT.keeps {w w' : World} {g n k : Nat} {cs : List Value} {xs : List StT} (h : OwnT w g n cs k xs) (kk : Keeps w w') : OwnT w' g n cs k xs :=
 ⟨own_keeps h.1 kk, h.2.1, fun j h1 h2 => by
  obtain ⟨p, l, q, a0, a1, a2, a3, a4, b1, b2, b3⟩ := h.2.2 j h1 h2
  exact ⟨p, l, q, a0, a1, a2, a3, a4, b1.keeps kk, b2.keeps kk, b3.keeps kk⟩⟩
theorem OwnT.cells {w : World} {g n k : Nat} {cs : List Value} {xs : List StT} (h : OwnT w g n cs k xs) (j : Nat) (hj : j < n) :
  (∃ a0 a1 a2 a3 a4, w.cell? ⟨g, j * 5, none⟩ = some a0 ∧ w.cell? ⟨g, j * 5 + 1, none⟩ = some a1 ∧ w.cell? ⟨g, j * 5 + 2, none⟩ = some a2 ∧ w.cell? ⟨g, j * 5 + 3, none⟩ = some a3 ∧ w.cell? ⟨g, j * 5 + 4, none⟩ = some a4) ∧ (∀ i, w.frozen? ⟨g, i, none⟩ = false) := by
 have hc : ∀ c (_ : c < 5), w.cell? ⟨g, j * 5 + c, none⟩ = some (cs[j * 5 + c]'(by rw [h.2.1]; omega)) := fun c hc => by
  rw [World.ownsRow.cellAt h.1 _ (by omega)]
  exact List.getElem?_eq_getElem (by rw [h.2.1]; omega)
 exact ⟨⟨_, _, _, _, _, hc 0 (by omega), hc 1 (by omega), hc 2 (by omega), hc 3 (by omega), hc 4 (by omega)⟩, fun i => World.ownsRow.frozenAt h.1 i⟩
theorem OwnT.put {w : World} {g n k : Nat} {cs : List Value} {xs : List StT} (h : OwnT w g n cs k xs) (hk : k < n) (hx : k < xs.length) (p l q : Value) (hp : OwnI w (g + 1) p xs[k].pr) (hl : OwnS w (g + 1) l xs[k].l) (hq : OwnS w (g + 1) q xs[k].r) :
  ∃ cs', OwnT (((((w.setCell ⟨g, k * 5, none⟩ (.int .i64 xs[k].rule)).setCell ⟨g, k * 5 + 1, none⟩ p).setCell ⟨g, k * 5 + 2, none⟩ l).setCell ⟨g, k * 5 + 3, none⟩ q).setCell ⟨g, k * 5 + 4, none⟩ (.string xs[k].main)) g n cs' (k + 1) xs := by
 have r0 := (World.ownsRow.stored h.1 (k * 5) (.int .i64 xs[k].rule)).1
 have r1 := (World.ownsRow.stored r0 (k * 5 + 1) p).1
 have r2 := (World.ownsRow.stored r1 (k * 5 + 2) l).1
 have r3 := (World.ownsRow.stored r2 (k * 5 + 3) q).1
 have r4 := (World.ownsRow.stored r3 (k * 5 + 4) (.string xs[k].main)).1
 have hlen := h.2.1
 refine ⟨_, r4, by simp [hlen], fun j h1 h2 => ?_⟩
 have g1 : g < g + 1 := by omega
 by_cases hj : j = k
 ·subst hj
  refine ⟨p, l, q, ?_, ?_, ?_, ?_, ?_, ((((hp.setBelow g1 _).setBelow g1 _).setBelow g1 _).setBelow g1 _).setBelow g1 _, ((((hl.setBelow g1 _).setBelow g1 _).setBelow g1 _).setBelow g1 _).setBelow g1 _, ((((hq.setBelow g1 _).setBelow g1 _).setBelow g1 _).setBelow g1 _).setBelow g1 _⟩
  all_goals simp only [List.getElem?_set, List.length_set, hlen]
  ·rw [if_neg (by omega), if_neg (by omega), if_neg (by omega), if_neg (by omega), if_pos trivial, if_pos (by omega)]
  ·rw [if_neg (by omega), if_neg (by omega), if_neg (by omega), if_pos trivial, if_pos (by omega)]
  ·rw [if_neg (by omega), if_neg (by omega), if_pos trivial, if_pos (by omega)]
  ·rw [if_neg (by omega), if_pos trivial, if_pos (by omega)]
  ·rw [if_pos trivial, if_pos (by omega)]
 ·obtain ⟨p', l', q', a0, a1, a2, a3, a4, b1, b2, b3⟩ := h.2.2 j h1 (by omega)
  refine ⟨p', l', q', ?_, ?_, ?_, ?_, ?_, ((((b1.setBelow g1 _).setBelow g1 _).setBelow g1 _).setBelow g1 _).setBelow g1 _, ((((b2.setBelow g1 _).setBelow g1 _).setBelow g1 _).setBelow g1 _).setBelow g1 _, ((((b3.setBelow g1 _).setBelow g1 _).setBelow g1 _).setBelow g1 _).setBelow g1 _⟩
  all_goals simp only [List.getElem?_set, List.length_set, hlen]
  all_goals rw [if_neg (by omega), if_neg (by omega), if_neg (by omega), if_neg (by omega), if_neg (by omega)]
  all_goals assumption
theorem OwnT.read {w : World} {g n : Nat} {cs : List Value} {xs : List StT} (h : OwnT w g n cs n xs) (hn : xs.length = n) (hm : n ≤ 1048576) (hI : ∀ x ∈ xs, x.pr.length ≤ 2147483648 ∧ x.l.length ≤ 2147483648 ∧ x.r.length ≤ 2147483648) : StL w (.slice (some ⟨g, 0, none⟩) n n) xs := by
 subst hn
 refine ⟨_, _, rfl, Nat.le_refl _, by unfold maxLen; omega, by omega, fun i hi => ?_⟩
 obtain ⟨p, l, q, a0, a1, a2, a3, a4, b1, b2, b3⟩ := h.2.2 i hi hi
 obtain ⟨l1, l2, l3⟩ := hI _ (List.getElem_mem hi)
 obtain ⟨pp, pn, pc, rfl⟩ := b1.shape0
 refine ⟨g, 0, fun c => if c = 0 then .int .i64 xs[i].rule else if c = 1 then .slice pp pn pc else if c = 2 then l else if c = 3 then q else .string xs[i].main, rfl, fun c hc => ?_, rfl, ⟨b1.ints l1, pp, pn, pc, rfl⟩, b2.strsP l2, b3.strsP l3, rfl⟩
 rw [show 0 + i * 5 + c = i * 5 + c by omega, World.ownsRow.cellAt h.1 _ (by omega)]
 have : c = 0 ∨ c = 1 ∨ c = 2 ∨ c = 3 ∨ c = 4 := by omega
 rcases this with rfl | rfl | rfl | rfl | rfl
 ·exact a0
 ·exact a1
 ·exact a2
 ·exact a3
 ·exact a4
theorem StLr.get {w : World} {p : Option Addr} {n cap : Nat} {xs : List StT} (h : StLr w (.slice p n cap) xs) (i : Nat) (hi : i < xs.length) :
  ∃ b off p1 n1 c1 p2 n2 c2 p3 n3 c3, p = some ⟨b, off, none⟩ ∧ (w.cell? ⟨b, off + i * 5, none⟩ = some (.int .i64 xs[i].rule) ∧ w.cell? ⟨b, off + i * 5 + 1, none⟩ = some (.slice p1 n1 c1) ∧ w.cell? ⟨b, off + i * 5 + 2, none⟩ = some (.slice p2 n2 c2) ∧ w.cell? ⟨b, off + i * 5 + 3, none⟩ = some (.slice p3 n3 c3) ∧ w.cell? ⟨b, off + i * 5 + 4, none⟩ = some (.string xs[i].main)) ∧
   Ints w (.slice p1 n1 c1) xs[i].pr ∧ Strs w (.slice p2 n2 c2) xs[i].l ∧ Strs w (.slice p3 n3 c3) xs[i].r := by
 obtain ⟨p', cap', hv, h1, h2, h3, h4⟩ := h
 cases hv
 obtain ⟨b, off, f, hp, hc, e0, hr1, hr2, hr3, e4⟩ := h4 i hi
 obtain ⟨p1, c1, e1, _⟩ := hr1.sh5
 obtain ⟨p2, n2, c2, e2⟩ := hr2.shape0
 obtain ⟨p3, n3, c3, e3⟩ := hr3.shape0
 have a0 := hc 0 (by omega)
 have a1 := hc 1 (by omega)
 have a2 := hc 2 (by omega)
 have a3 := hc 3 (by omega)
 have a4 := hc 4 (by omega)
 rw [e0] at a0
 rw [e1] at a1 hr1
 rw [e2] at a2 hr2
 rw [e3] at a3 hr3
 rw [e4] at a4
 exact ⟨b, off, p1, _, c1, p2, n2, c2, p3, n3, c3, hp, ⟨a0, a1, a2, a3, a4⟩, hr1, hr2, hr3⟩
theorem StLr.lens {w : World} {v : Value} {xs : List StT} (h : StLr w v xs) : ∀ x ∈ xs, x.pr.length ≤ 2147483648 ∧ x.l.length ≤ 2147483648 ∧ x.r.length ≤ 2147483648 := fun x hx => by
 obtain ⟨i, hi, rfl⟩ := List.getElem_of_mem hx
 obtain ⟨p, cap, hv, h1, h2, h3, h4⟩ := h
 obtain ⟨b, off, f, hp, hc, e0, hr1, hr2, hr3, e4⟩ := h4 i hi
 obtain ⟨_, _, _, g1⟩ := hr1.sh5
 obtain ⟨_, _, _, _, _, g2⟩ := hr2.shape
 obtain ⟨_, _, _, _, _, g3⟩ := hr3.shape
 exact ⟨g1, g2, g3⟩
set_option maxRecDepth 20000 in
set_option maxHeartbeats 4000000 in
theorem toModalStepS_any (xs : List StT) (v : Value) (w : World) (hv : StLr w v xs) (hl : xs.length ≤ 1048576) : Calls Tryz.prog 15 #[v] w fun e w' => ∃ v', e = .returned v' ∧ StL w' v' xs ∧ Keeps w w' := by
 have HV := hid hv
 have HI := hid hv.lens
 obtain ⟨p, cap, rfl, hle, hmx, hlen⟩ : ∃ p cap, v = .slice p xs.length cap ∧ xs.length ≤ cap ∧ cap ≤ maxLen ∧ xs.length ≤ 2147483648 := by
  obtain ⟨p, cap, h1, h2, h3, h4, _⟩ := hv
  exact ⟨p, cap, h1, h2, h3, h4⟩
 unfold maxLen at hmx
 obtain ⟨w1, cs0, hmk, hown, k1⟩ := run_makeT w xs.length hl xs
 have Hown := hid hown; clear hown hv
 go_enter Tryz.func15, Tryz.ntmps15
 go_wp2
 clear hmk
 have hown := Hown.out
 go_loopw [4] (fun i' wr => ∃ (k : Nat) (cs : List Value), k ≤ xs.length ∧ i' = .int .i64 k ∧ OwnT wr w.heap.size xs.length cs k xs ∧ Keeps w wr) (fun i _ => xs.length - (intOf i).toNat)
 case atStart => exact ⟨0, cs0, by omega, rfl, hown, k1⟩
 case round =>
  obtain ⟨k, cs, hk, rfl, hownk, kw⟩ := hrel
  have HO := hid hownk; clear hownk
  clear Hown hown
  by_cases hlt : k < xs.length
  ·obtain ⟨b, o, p1, n1, c1, p2, n2, c2, p3, n3, c3, rfl, ⟨z0, z1, z2, z3, z4⟩, g1, g2, g3⟩ := (HV.out.keeps kw).get k hlt
   have hlt' : (k : Int) < xs.length := by omega
   have HT := hid (toModalStep_any xs[k] _ _ _ wr g1 g2 g3)
   clear g1 g2 g3
   have hgs : w.heap.size + 1 ≤ wr.heap.size := (World.ownsRow.lt HO.out.1 _ rfl).2
   go_wp2_with fail
   refine HT.out.mono ?_; rintro e w2 ⟨p', l', q', rfl, o1, o2, o3, k2⟩
   have HO2 := hid (HO.out.keeps k2)
   have HPUT := hid (HO2.out.put hlt hlt p' l' q' (o1.mono hgs) (o2.mono hgs) (o3.mono hgs))
   obtain ⟨q1, m1, d1, rfl⟩ := o1.shape0
   obtain ⟨q2, m2, d2, rfl⟩ := o2.shape0
   obtain ⟨q3, m3, d3, rfl⟩ := o3.shape0
   obtain ⟨⟨a0, a1, a2, a3, a4, y0, y1, y2, y3, y4⟩, yf⟩ := HO2.out.cells k hlt
   have kw2 := kw.trans k2
   clear o1 o2 o3 HO HO2 HT z0 z1 z2 z3 z4
   go_wp2_with fail
   go_roundw
   case rel =>
    obtain ⟨cs', hc'⟩ := HPUT.out
    exact ⟨k + 1, cs', by omega, by go_num, hc', ((((kw2.setCell (Nat.le_refl _) _).setCell (Nat.le_refl _) _).setCell (Nat.le_refl _) _).setCell (Nat.le_refl _) _).setCell (Nat.le_refl _) _⟩
   case measure => simp [intOf]; omega
  ·have hlt' : ¬ (k : Int) < xs.length := by omega
   obtain rfl : k = xs.length := by omega
   have HR := hid (HO.out.read rfl hl HI.out)
   go_wp2
   go_ret
   exact ⟨_, rfl, HR.out, kw⟩
end Go.Proofs.YtkkcfifnkcnceaaGreat
namespace Go.Proofs.YtkkcfifnkcnceaaGreat
open Go.RowKit
set_option maxRecDepth 20000 in
set_option maxHeartbeats 2000000 in
theorem eqModalStep_same (x : StT) (p l q p' l' q' : Value) (w : World) (hp : Ints w p x.pr) (hl : StrsP w l x.l) (hq : StrsP w q x.r) (hp' : Ints w p' x.pr) (hl' : StrsP w l' x.l) (hq' : StrsP w q' x.r) :
  Calls Tryz.prog 52 #[.agg #[.int .i64 x.rule, p, l, q, .string x.main], .agg #[.int .i64 x.rule, p', l', q', .string x.main]] w fun e w' => e = .returned (.bool true) ∧ Keeps w w' := by
 obtain ⟨p1, c1, rfl, _⟩ := hp.sh5
 obtain ⟨p2, n2, c2, rfl⟩ := hl.sh
 obtain ⟨p3, n3, c3, rfl⟩ := hq.sh
 obtain ⟨p4, c4, rfl, _⟩ := hp'.sh5
 obtain ⟨p5, n5, c5, rfl⟩ := hl'.sh
 obtain ⟨p6, n6, c6, rfl⟩ := hq'.sh
 have kA := (Keeps.refl w).alloc (.cells #[.int .i64 x.rule, .slice p1 x.pr.length c1, .slice p2 n2 c2, .slice p3 n3 c3, .string x.main] 68)
 have b0 := BoxG.made w 68 [.int .i64 x.rule, .slice p1 x.pr.length c1, .slice p2 n2 c2, .slice p3 n3 c3, .string x.main] (by simp) (by simp)
 have hz1 : (w.alloc (.cells #[.int .i64 x.rule, .slice p1 x.pr.length c1, .slice p2 n2 c2, .slice p3 n3 c3, .string x.main] 68)).heap.size = w.heap.size + 1 := by simp
 have b1 := BoxG.made (w.alloc (.cells #[.int .i64 x.rule, .slice p1 x.pr.length c1, .slice p2 n2 c2, .slice p3 n3 c3, .string x.main] 68)) 68 [.int .i64 x.rule, .slice p4 x.pr.length c4, .slice p5 n5 c5, .slice p6 n6 c6, .string x.main] (by simp) (by simp)
 have kB := (Keeps.refl (w.alloc (.cells #[.int .i64 x.rule, .slice p1 x.pr.length c1, .slice p2 n2 c2, .slice p3 n3 c3, .string x.main] 68))).alloc (.cells #[.int .i64 x.rule, .slice p4 x.pr.length c4, .slice p5 n5 c5, .slice p6 n6 c6, .string x.main] 68)
 rw [hz1] at b1
 have KA := kA.trans kB
 have B0 := b0.keeps kB
 have HI := hid (fun wz (k : Keeps w wz) => eqInt64S_any x.pr x.pr _ _ wz (hp.keeps k) (hp'.keeps k))
 have HL := hid (fun wz (k : Keeps w wz) => eqStringS_same x.l _ _ wz (hl.keeps k).1 (hl'.keeps k).1)
 have HR := hid (fun wz (k : Keeps w wz) => eqStringS_same x.r _ _ wz (hq.keeps k).1 (hq'.keeps k).1)
 rw [decide_eq_true rfl] at HI
 clear hp hl hq hp' hl' hq' kA kB b0 hz1
 have e1 : (x.rule != x.rule) = false := by simp
 have e2 : (x.main.toList != x.main.toList) = false := by simp
 go_enter Tryz.func52, Tryz.ntmps52
 go_wp2_with fail
 generalize (w.alloc (.cells #[.int .i64 x.rule, .slice p1 x.pr.length c1, .slice p2 n2 c2, .slice p3 n3 c3, .string x.main] 68)).alloc (.cells #[.int .i64 x.rule, .slice p4 x.pr.length c4, .slice p5 n5 c5, .slice p6 n6 c6, .string x.main] 68) = wA at *
 refine (HI.out wA KA).mono ?_; rintro e w2 ⟨rfl, k2⟩
 have C0 := B0.keeps k2
 have C1 := b1.keeps k2
 have K2 := KA.trans k2
 clear B0 b1 KA k2 HI
 obtain ⟨⟨x0, x1, x2, x3, x4⟩, _⟩ := C0.c5
 obtain ⟨⟨y0, y1, y2, y3, y4⟩, _⟩ := C1.c5
 go_wp2_with fail
 refine (HL.out w2 K2).mono ?_; rintro e w3 ⟨rfl, k3⟩
 have D0 := C0.keeps k3
 have D1 := C1.keeps k3
 have K3 := K2.trans k3
 clear C0 C1 K2 k3 HL x0 x1 x2 x3 x4 y0 y1 y2 y3 y4
 obtain ⟨⟨x0, x1, x2, x3, x4⟩, _⟩ := D0.c5
 obtain ⟨⟨y0, y1, y2, y3, y4⟩, _⟩ := D1.c5
 go_wp2_with fail
 refine (HR.out w3 K3).mono ?_; rintro e w4 ⟨rfl, k4⟩
 have E0 := D0.keeps k4
 have E1 := D1.keeps k4
 have K4 := K3.trans k4
 clear D0 D1 K3 k4 HR x0 x1 x2 x3 x4 y0 y1 y2 y3 y4
 obtain ⟨⟨x0, x1, x2, x3, x4⟩, _⟩ := E0.c5
 obtain ⟨⟨y0, y1, y2, y3, y4⟩, _⟩ := E1.c5
 go_wp2_with fail
 go_ret
 exact ⟨rfl, K4⟩
set_option maxRecDepth 20000 in
set_option maxHeartbeats 4000000 in
theorem eqModalStepS_same (xs : List StT) (va vb : Value) (w : World) (hva : StL w va xs) (hvb : StL w vb xs) :
  Calls Tryz.prog 17 #[va, vb] w fun e w' => e = .returned (.bool true) ∧ Keeps w w' := by
 obtain ⟨pa, ca, rfl, hlea, hmxa, hlena⟩ := hva.shape
 obtain ⟨pb, cb, rfl, hleb, hmxb, hlenb⟩ := hvb.shape
 unfold maxLen at hmxa hmxb
 have HA := hid hva; clear hva
 have HB := hid hvb; clear hvb
 have hl' : ((xs.length : Int) != (xs.length : Int)) = false := by simp
 go_enter Tryz.func17, Tryz.ntmps17
 go_wp2
 go_loopw [4, 5] (fun r i' wr => ∃ k : Nat, k ≤ xs.length ∧ Keeps w wr ∧ i' = .int .i64 k ∧ r = .bool false) (fun _ i _ => xs.length - (intOf i).toNat)
 case atStart => exact ⟨0, by omega, Keeps.refl w, rfl, rfl⟩
 case round =>
  obtain ⟨i, hk, kw, rfl, rfl⟩ := hrel
  clear hl'
  by_cases hlt : i < xs.length
  ·have hlt' : (i : Int) < xs.length := by omega
   have kd := (Keeps.refl wr).drew
   have KD := kw.trans kd
   obtain ⟨b, o, p1, n1, c1, p2, n2, c2, p3, n3, c3, rfl, ⟨a0, a1, a2, a3, a4⟩, g1, g2, g3⟩ := (HA.out.keeps KD).get i hlt
   obtain ⟨b', o', q1, m1, d1, q2, m2, d2, q3, m3, d3, rfl, ⟨f0, f1, f2, f3, f4⟩, j1, j2, j3⟩ := (HB.out.keeps KD).get i hlt
   generalize xs[i] = x at *
   have HEQ := hid (fun wz (k : Keeps wr.drew wz) => eqModalStep_same x _ _ _ _ _ _ wz (g1.keeps k) (g2.keeps k) (g3.keeps k) (j1.keeps k) (j2.keeps k) (j3.keeps k))
   have HKD := hid KD
   clear g1 g2 g3 j1 j2 j3 kd KD
   go_wp2_with fail
   go_region_held3 (fun w' => w'.cell? ⟨b, o + i * 5, none⟩ = some (.int .i64 x.rule) ∧ w'.cell? ⟨b, o + i * 5 + 1, none⟩ = some (.slice p1 n1 c1) ∧ w'.cell? ⟨b, o + i * 5 + 2, none⟩ = some (.slice p2 n2 c2) ∧ w'.cell? ⟨b, o + i * 5 + 3, none⟩ = some (.slice p3 n3 c3) ∧ w'.cell? ⟨b, o + i * 5 + 4, none⟩ = some (.string x.main) ∧ w'.cell? ⟨b', o' + i * 5, none⟩ = some (.int .i64 x.rule) ∧ w'.cell? ⟨b', o' + i * 5 + 1, none⟩ = some (.slice q1 m1 d1) ∧ w'.cell? ⟨b', o' + i * 5 + 2, none⟩ = some (.slice q2 m2 d2) ∧ w'.cell? ⟨b', o' + i * 5 + 3, none⟩ = some (.slice q3 m3 d3) ∧ w'.cell? ⟨b', o' + i * 5 + 4, none⟩ = some (.string x.main)) (first | exact ⟨a0, a1, a2, a3, a4, f0, f1, f2, f3, f4⟩ | exact ⟨a0', a1', a2', a3', a4', f0', f1', f2', f3', f4'⟩) (first | (go_at_call 52; refine (HEQ.out _ (Keeps.refl _)).mono ?_; rintro e w6 ⟨rfl, k6⟩; have a0' := k6.cell a0; have a1' := k6.cell a1; have a2' := k6.cell a2; have a3' := k6.cell a3; have a4' := k6.cell a4; have f0' := k6.cell f0; have f1' := k6.cell f1; have f2' := k6.cell f2; have f3' := k6.cell f3; have f4' := k6.cell f4))
   go_wp2_with fail
   go_roundw
   case rel => exact ⟨i + 1, by omega, HKD.out.trans k6, by go_num, rfl⟩
   case measure => simp [intOf]; omega
  ·have hlt' : ¬ (i : Int) < xs.length := by omega
   go_wp2
   go_ret
   exact ⟨rfl, kw⟩
set_option maxRecDepth 20000 in
set_option maxHeartbeats 4000000 in
theorem lawIsAnalytic (s : ByteArray) (xs : List StW) (steps : List StT) (v : Value) (w : World) (hw : StLw w v xs) (hz : szW xs ≤ 1048576) (hr : StLr w v steps) (hM : MidSt steps) (hl : steps.length ≤ 1048576) (hs : s.size ≤ 1048576) :
  Calls Tryz.prog 4 #[.string s, v] w fun e w' => e = .returned (.bool true) ∧ Keeps w w' := by
 have HSZ := hid (fun wz (k : Keeps w wz) => szModalStepS_any xs v 1048576 wz (hw.keeps k) (by omega) (by omega))
 rw [if_neg (by omega)] at HSZ
 have HTO := hid (fun wz (k : Keeps w wz) => toModalStepS_any steps v wz (hr.keeps k) hl)
 have HSP := hid (fun v' wz (h : StL wz v' steps) => specIsAnalytic_any s steps hM v' wz h)
 have HIM := hid (fun v' wz (h : StL wz v' steps) => implIsAnalytic_any s steps hM v' wz h)
 have HEQ := hid (fun va vb wz (h1 : StL wz va steps) (h2 : StL wz vb steps) => eqModalStepS_same steps va vb wz h1 h2)
 obtain ⟨p, cap, rfl, _, _, _⟩ := hw.shape
 have hz' : ¬ ((1048576 : Int) - szW xs < 0) := by omega
 have hs' : ¬ ((s.size : Int) > 1048576) := by omega
 generalize (anR s steps).1 = b at *
 generalize (anR s steps).2 = c at *
 have e1 : (b != b) = false := by simp
 have e2 : (c != c) = false := by simp
 clear hw hr hM
 go_enter Tryz.func4, Tryz.ntmps4
 go_wp2_with fail
 refine (HSZ.out _ (Keeps.refl w)).mono ?_; rintro e w1 ⟨rfl, k1⟩
 go_wp2_with fail
 refine (HTO.out _ k1).mono ?_; rintro e w2 ⟨v2, rfl, h2, k2⟩
 have K2 := k1.trans k2
 have HV2 := hid h2
 obtain ⟨p2, c2, rfl, _⟩ := h2.shape
 clear h2 k1 k2
 go_wp2_with fail
 refine (HSP.out _ _ HV2.out).mono ?_; rintro e w3 ⟨rfl, k3⟩
 have K3 := K2.trans k3
 clear HV2 K2 k3 HSP
 go_wp2_with fail
 refine (HTO.out _ K3).mono ?_; rintro e w4 ⟨v4, rfl, h4, k4⟩
 have K4 := K3.trans k4
 have HV4 := hid h4
 obtain ⟨p4, c4, rfl, _⟩ := h4.shape
 clear h4 K3 k4
 go_wp2_with fail
 refine (HIM.out _ _ HV4.out).mono ?_; rintro e w5 ⟨rfl, k5⟩
 have K5 := K4.trans k5
 have HV5 := hid (HV4.out.keeps k5)
 clear HV4 K4 k5 HIM
 go_wp2_with fail
 refine (HTO.out _ K5).mono ?_; rintro e w6 ⟨v6, rfl, h6, k6⟩
 have K6 := K5.trans k6
 have HV6 := hid h6
 have HV7 := hid (HV5.out.keeps k6)
 obtain ⟨p6, c6, rfl, _⟩ := h6.shape
 clear h6 K5 k6 HV5
 go_wp2_with fail
 refine (HEQ.out _ _ _ HV7.out HV6.out).mono ?_; rintro e w7 ⟨rfl, k7⟩
 go_wp2_with fail
 go_ret
 exact ⟨rfl, K6.trans k7⟩
set_option maxRecDepth 20000 in
set_option maxHeartbeats 2000000 in
theorem lawIsAnalyticBig (s : ByteArray) (p : Option Addr) (n cap : Nat) (w : World) (hs : s.size ≤ maxLen) (hn : n ≤ maxLen) (hw : n ≤ 2147483648 → ∃ xs : List StW, xs.length = n ∧ StLw w (.slice p n cap) xs) (hb : 1048576 < s.size ∨ 2147483648 < n ∨ ∀ xs : List StW, xs.length = n → StLw w (.slice p n cap) xs → 1048576 < szW xs) :
  Calls Tryz.prog 4 #[.string s, .slice p n cap] w fun e w' => e = .returned (.bool true) ∧ Keeps w w' := by
 have HSZ : Hid (s.size ≤ 1048576 → ∀ wz, Keeps w wz → Calls Tryz.prog 13 #[.slice p n cap, .int .i64 1048576] wz fun e w' => e = .returned (.int .i64 (-1)) ∧ Keeps wz w') := hid (fun hs1 wz k => by
  by_cases hn2 : n ≤ 2147483648
  ·obtain ⟨xs, hx, hxs⟩ := hw hn2
   have hz : 1048576 < szW xs := by
    rcases hb with h | h | h
    ·omega
    ·omega
    ·exact h xs hx hxs
   have := szModalStepS_any xs _ 1048576 wz (hxs.keeps k) (by omega) (by omega)
   rw [if_pos (by omega)] at this
   exact this
  ·exact (szModalStepS_big p n cap 1048576 wz hn (by omega) (by omega) (by omega)).mono (fun e w' h => ⟨h.1, h.2 ▸ Keeps.refl _⟩))
 clear hw hb hn
 unfold maxLen at hs
 by_cases hs1 : s.size ≤ 1048576
 ·have hs' : ¬ ((s.size : Int) > 1048576) := by omega
  have HS2 := hid (HSZ.out hs1)
  clear HSZ
  go_enter Tryz.func4, Tryz.ntmps4
  go_wp2_with fail
  refine (HS2.out _ (Keeps.refl w)).mono ?_; rintro e w1 ⟨rfl, k1⟩
  go_wp2_with fail
  go_ret
  exact ⟨rfl, k1⟩
 ·have hs' : (s.size : Int) > 1048576 := by omega
  clear HSZ
  go_enter Tryz.func4, Tryz.ntmps4
  go_wp2_with fail
  go_ret
  exact ⟨rfl, Keeps.refl w⟩
end Go.Proofs.YtkkcfifnkcnceaaGreat
namespace Go.Proofs.YtkkcfifnkcnceaaGreat
open Go.ChangeShapes Go.WideShapes Go.ChangeAt Go.RowKit Go.Deep
section
variable {H : Type} {enc : TypeId × Value → H} {W : World}
set_option maxRecDepth 100000 in
theorem open_steps {v : Value} {d : DataW H} {ps : List MemPlace} {r : Reach} {b0 : Nat} (hval : Value.okWide Tryz.prog W r b0 36 v)
  (h : DataW.Trod enc Tryz.prog W 0 (fun _ => true) true 36 v d ps) :
  ∃ p n cap, v = .slice p n cap ∧ n ≤ maxLen ∧ (n ≤ 2147483648 → ∃ xs : List StW, xs.length = n ∧ StLw W v xs) := by
 obtain ⟨p, n, cap, rfl⟩ := okWide_slice Tryz.underlying36 hval
 obtain ⟨fuel, hf⟩ := h
 have hmax : n ≤ maxLen := by
  rcases open_slice Tryz.underlying36 hf with ⟨hcs, _⟩ | ⟨a, len, cap', m, n', D, Pl, hcs, _, hl, hm, _⟩
  ·simp [Value.cells] at hcs
   omega
  ·simp [Value.cells] at hcs
   omega
 refine ⟨p, n, cap, rfl, hmax, fun hn => ?_⟩
 rcases open_slice Tryz.underlying36 hf with ⟨hcs, _⟩ | ⟨a, len, cap', m, n', D, Pl, hcs, _, hl, hm, hmm, _, hi⟩
 ·simp [Value.cells] at hcs
  obtain ⟨rfl, rfl, rfl⟩ := hcs
  exact ⟨[], rfl, none, 0, rfl, by simp, by simp [maxLen], by simp, fun i h => by simp at h⟩
 ·simp [Value.cells] at hcs
  obtain ⟨rfl, rfl, rfl⟩ := hcs
  simp at hmm
  subst hmm
  have hC : Tryz.prog.cellsOf 64 = 5 := by kernel_rfl
  have hnode : ∀ i, i < n → ∃ x : StW, ∃ f : Nat → Value, (∀ c, c < 5 → W.cell? (a.add (i * 5 + c)) = some (f c)) ∧ StRw W f x := by
   intro i hin
   obtain ⟨cs', hc, ht'⟩ := hi i (by omega)
   rw [hC] at hc
   obtain ⟨ys, n'', hn'', hy, hlen, hyl, hf'⟩ := DataW.trod_struct Tryz.underlying64 ht'
   obtain ⟨_, hcl, hat⟩ := World.cells?_some hc
   match cs', hcl with
   | [c0, c1, c2, c3, c4], _ =>
    have f0 := hf' 0 _ rfl
    have f1 := hf' 1 _ rfl
    have f2 := hf' 2 _ rfl
    have f3 := hf' 3 _ rfl
    have f4 := hf' 4 _ rfl
    have a0 := hat 0 (by omega)
    have a1 := hat 1 (by omega)
    have a2 := hat 2 (by omega)
    have a3 := hat 3 (by omega)
    have a4 := hat 4 (by omega)
    rw [add_add] at a0 a1 a2 a3 a4
    have hone : oneCellFields Tryz.prog (match Tryz.prog.underlying 64 with | some (.struct fs) => fs | _ => #[]) = true := by kernel_rfl
    rw [Tryz.underlying64] at hone
    obtain ⟨o0, k0⟩ := hone_of hone 0 _ rfl
    obtain ⟨o1, k1⟩ := hone_of hone 1 _ rfl
    obtain ⟨o2, k2⟩ := hone_of hone 2 _ rfl
    obtain ⟨o3, k3⟩ := hone_of hone 3 _ rfl
    obtain ⟨o4, k4⟩ := hone_of hone 4 _ rfl
    rw [o0, k0] at f0
    rw [o1, k1] at f1
    rw [o2, k2] at f2
    rw [o3, k3] at f3
    rw [o4, k4] at f4
    have hyl2 : ys.length = 5 := hyl
    obtain ⟨x, hx, _⟩ := DataW.trod_int Tryz.underlying2 (f0.trans (List.getElem?_eq_getElem (by omega)))
    have g1 : WkI W c1 := wkI_trod (f1.trans (List.getElem?_eq_getElem (by omega)))
    have g2 : WkS W c2 := wkS_trod (f2.trans (List.getElem?_eq_getElem (by omega)))
    have g3 : WkS W c3 := wkS_trod (f3.trans (List.getElem?_eq_getElem (by omega)))
    obtain ⟨z, hz, _, hzz⟩ := DataW.trod_string Tryz.underlying9 (f4.trans (List.getElem?_eq_getElem (by omega)))
    simp at hx hz
    subst hx; subst hz
    obtain ⟨A, hA⟩ := g2.sz
    obtain ⟨B, hB⟩ := g3.sz
    obtain ⟨p2, n2, q2, e2, _⟩ := g2
    obtain ⟨p3, n3, q3, e3, _⟩ := g3
    obtain ⟨p1, n1, q1, e1, hm1, hr1⟩ := g1
    refine ⟨⟨x, n1, A, B, z⟩, fun c => if c = 0 then .int .i64 x else if c = 1 then c1 else if c = 2 then c2 else if c = 3 then c3 else .string z, fun c hc => ?_, rfl, ⟨p1, q1, e1, hm1, hr1⟩, ⟨hA, p2, n2, q2, e2⟩, ⟨hB, p3, n3, q3, e3⟩, rfl, hzz⟩
    have : c = 0 ∨ c = 1 ∨ c = 2 ∨ c = 3 ∨ c = 4 := by omega
    rcases this with rfl | rfl | rfl | rfl | rfl
    ·simpa using a0
    ·simpa using a1
    ·simpa using a2
    ·simpa using a3
    ·simpa using a4
  obtain ⟨l, hnl, hns⟩ := choose_allI (α := StW) (P := fun i x => ∃ f : Nat → Value, (∀ c, c < 5 → W.cell? (a.add (i * 5 + c)) = some (f c)) ∧ StRw W f x) (n := n) hnode
  subst hnl
  refine ⟨l, rfl, some a, m, rfl, by simpa using hl, hm, by simpa using hn, fun i hi2 => ?_⟩
  obtain ⟨f, hfc, hst⟩ := hns i hi2
  obtain ⟨b, off, spot⟩ := a
  have hs : spot = none := by
   obtain ⟨_, hz0, _⟩ := hns 0 (by omega)
   have h1 := hz0 0 (by omega)
   simpa [Addr.add] using World.cell?_spot h1
  subst hs
  have hadd : ∀ k, (⟨b, off, none⟩ : Addr).add k = ⟨b, off + k, none⟩ := fun k => by unfold Addr.add; split <;> simp_all
  refine ⟨b, off, f, rfl, fun c hc => ?_, hst⟩
  have := hfc c hc
  rw [hadd] at this
  rw [show off + i * 5 + c = off + (i * 5 + c) by omega]
  exact this
end
end Go.Proofs.YtkkcfifnkcnceaaGreat
