import Derived.Test.YtfmmajgkjkmghaaGreatEPP
import Derived.Test.YtfmmajgkjkmghaaGreatEOZ
import Derived.Test.YtfmmajgkjkmghaaGreatEOM
import Derived.Test.YtfmmajgkjkmghaaGreatEOG
import Derived.Shelf.GgSortFunc.SW
import Derived.Sort.OwnSorted
import Derived.Shelf.Small.Bits
import Derived.Shelf.Strconv.Itoa0
import Derived.Shelf.Sort.Plain
import Derived.Shelf.Slices.Turned
import Derived.Ground.Names2Prog
import Derived.Shelf.Slices.Clone
import Derived.Shelf.Slices.CompactS
import Derived.Shelf.Slices.Cells
import Derived.Shelf.Slices.In.SortNone
import Derived.Ground.SlgnProg
import Derived.Shelf.SlicesE.Clone
import Derived.Test.YtfmmajgkjkmghaaGreatProg
/- Walks: the reference's small functions on formulas. -/
namespace Go.Proofs.YtfmmajgkjkmghaaGreat
open Go.RowKit
def RetN (w : World) (a : List Nd) (e : Ending) (w' : World) : Prop := ∃ v, e = .returned v ∧ OwnN w' w.heap.size v a ∧ Keeps w w'
def RetS (w : World) (a : List Nd) (e : Ending) (w' : World) : Prop := ∃ v, e = .returned v ∧ Nds w v a ∧ w = w'
def plainL (a : List Nd) : Bool := a.all fun n => decide (n.k ≠ 5 ∧ n.k ≠ 6)
def plainErr (a : List Nd) : Int := if isFm a then (if plainL a then 0 else 5) else 1
set_option maxHeartbeats 400000 in
theorem l02Is_any (a : List Nd) (v : Value) (w : World) (hv : Nds w v a) :
  Calls Tryz.prog 85 #[v] w fun e w' => e = .returned (.bool (isFm a)) ∧ w = w' := by
 have hv0 := hv
 obtain ⟨p, cap, rfl, hle, hmx, hr, hlen⟩ := hv
 unfold maxLen at hmx
 by_cases h : a.length ≤ 40
 all_goals
  go_enter Tryz.func85, Tryz.ntmps85
  go_wp2_with (go_at_call 161; refine (l02Tree_any _ _ _ hv0).mono ?_; rintro e w' ⟨rfl, rfl⟩)
  go_ret
  exact ⟨ret_bool (by simp [isFm]; omega), rfl⟩
set_option maxHeartbeats 400000 in
theorem l02Plain_any (a : List Nd) (v : Value) (w : World) (hv : Nds w v a) :
  Calls Tryz.prog 86 #[v] w fun e w' => e = .returned (.bool (plainL a)) ∧ w = w' := by
 obtain ⟨p, cap, rfl, hle, hmx, hr, hlen⟩ := hv
 unfold maxLen at hmx
 go_enter Tryz.func86, Tryz.ntmps86
 go_wp2
 go_loop [2, 3] (fun r i' => ∃ k : Nat, k ≤ a.length ∧ (∀ j (h : j < a.length), j < k → a[j].k ≠ 5 ∧ a[j].k ≠ 6) ∧ i' = .int .i64 k ∧ r = .bool false) (fun _ i => a.length - (intOf i).toNat)
 case atStart => exact ⟨0, by omega, by omega, rfl, rfl⟩
 case round =>
  obtain ⟨k, hk, hs, rfl, rfl⟩ := hrel
  have Hs := hid hs; clear hs
  by_cases hlt : k < a.length
  ·obtain ⟨b, off, rfl, h1, h2⟩ := hr.nd k hlt
   clear hr h2
   by_cases g1 : a[k].k = 5 ∨ a[k].k = 6
   ·have hbad : plainL a = false := by
     simp only [plainL]; rw [List.all_eq_false]; exact ⟨a[k], by simp, by simp; omega⟩
    have Hb := hid hbad; clear hbad
    rcases g1 with g1 | g1
    ·have g5 : (a[k].k == 5) = true := by simp [g1]
     clear g1
     go_wp2
     go_ret
     exact ⟨ret_bool Hb.out.symm, rfl⟩
    ·have g5 : (a[k].k == 5) = false := by simp [g1]
     have g6 : (a[k].k == 6) = true := by simp [g1]
     clear g1
     go_wp2
     go_ret
     exact ⟨ret_bool Hb.out.symm, rfl⟩
   ·have g5 : (a[k].k == 5) = false := by simp; omega
    have g6 : (a[k].k == 6) = false := by simp; omega
    have G1 := hid g1; clear g1
    go_wp2
    go_round
    case rel =>
     refine ⟨k + 1, by omega, ?_, by go_num, rfl⟩
     intro j hj hjk
     by_cases e : j = k
     ·subst e; have := G1.out; omega
     ·exact Hs.out j hj (by omega)
    case measure => simp [intOf]; omega
  ·go_wp2
   go_ret
   refine ⟨ret_bool ?_, rfl⟩
   simp only [plainL]; symm; rw [List.all_eq_true]; intro x hx
   obtain ⟨j, hj, rfl⟩ := List.getElem_of_mem hx
   have := Hs.out j hj (by omega)
   simpa using this
set_option maxHeartbeats 400000 in
theorem l02Left_any (a : List Nd) (x : Nd) (t : Fm) (r : List Nd) (v : Value) (w : World) (hv : Nds w v a) (ha : a = x :: (t.enc ++ r)) :
  Calls Tryz.prog 90 #[v] w (RetS w t.enc) := by
 have hv0 := hv
 obtain ⟨p, cap, rfl, hle, hmx, hr, hlen⟩ := hv
 have hp := Fm.enc_pos t
 have hs : skipInt 1 a (1 : Int).toNat = 1 + t.enc.length := by subst ha; exact skipInt_enc [x] t r
 have hl : 1 + t.enc.length ≤ a.length := by subst ha; simp; omega
 obtain ⟨b, off, rfl⟩ := hr.ptrN (by omega)
 have hmx0 := hid hmx
 unfold maxLen at hmx
 have Ha := hid ha; clear ha
 have Hs := hid hs; clear hs
 have hc1 : ¬ cap = 1 := by omega
 go_enter Tryz.func90, Tryz.ntmps90
 go_wp2_with (go_at_call 162; refine (l02Part_any _ _ _ _ hv0 (by omega) (by omega)).mono ?_; rintro e w' ⟨rfl, rfl⟩; rw [Hs.out])
 go_ret
 have e := Ha.out
 rw [show x :: (t.enc ++ r) = [x] ++ (t.enc ++ r) from rfl] at e
 rw [e] at hr
 exact ⟨_, rfl, Nds.sub (l := [x]) (m := t.enc) (r := r) hr (by omega) (by simp) (by omega) (by omega) (by have := hmx0.out; omega), rfl⟩
set_option maxHeartbeats 400000 in
theorem l02Right_any (a : List Nd) (x : Nd) (t u : Fm) (v : Value) (w : World) (hv : Nds w v a) (ha : a = x :: (t.enc ++ u.enc)) :
  Calls Tryz.prog 91 #[v] w (RetS w u.enc) := by
 have hv0 := hv
 obtain ⟨p, cap, rfl, hle, hmx, hr, hlen⟩ := hv
 have hp := Fm.enc_pos u
 have hs : skipInt 1 a (1 : Int).toNat = 1 + t.enc.length := by subst ha; exact skipInt_enc [x] t u.enc
 have hl : a.length = 1 + t.enc.length + u.enc.length := by subst ha; simp; omega
 obtain ⟨b, off, rfl⟩ := hr.ptrN (by omega)
 have hmx0 := hid hmx
 unfold maxLen at hmx
 have Ha := hid ha; clear ha
 have Hs := hid hs; clear hs
 have hl1 : 1 + t.enc.length + u.enc.length ≤ a.length := by omega
 have Hl := hid hl; clear hl
 have hc1 : ¬ cap = 1 + t.enc.length := by omega
 go_enter Tryz.func91, Tryz.ntmps91
 go_wp2_with (go_at_call 162; refine (l02Part_any _ _ _ _ hv0 (by omega) (by omega)).mono ?_; rintro e w' ⟨rfl, rfl⟩; rw [Hs.out])
 go_ret
 have e := Ha.out
 rw [show x :: (t.enc ++ u.enc) = (x :: t.enc) ++ (u.enc ++ []) by simp] at e
 rw [e] at hr
 have e2 := Hl.out
 exact ⟨_, rfl, Nds.sub (l := x :: t.enc) (m := u.enc) (r := []) hr (by omega) (by simp; omega) (by omega) (by omega) (by have := hmx0.out; omega), rfl⟩
set_option maxHeartbeats 400000 in
theorem l02False_any (w : World) : Calls Tryz.prog 88 #[] w (RetN w Fm.fls.enc) := by
 go_enter Tryz.func88, Tryz.ntmps88
 go_wp2
 go_ret
 exact ⟨_, rfl, OwnN.lit1 w ⟨1, 0⟩, (Keeps.refl w).alloc _⟩
set_option maxHeartbeats 400000 in
theorem l02Pair_any (k : Int) (a b : List Nd) (va vb : Value) (w : World) (hva : Nds w va a) (hvb : Nds w vb b) (hl : 1 + a.length + b.length ≤ 2147483648) :
  Calls Tryz.prog 89 #[.int .i64 k, va, vb] w (RetN w (⟨k, 0⟩ :: (a ++ b))) := by
 go_enter Tryz.func89, Tryz.ntmps89
 have h1 := OwnN.lit1 w ⟨k, 0⟩
 have k1 := (Keeps.refl w).alloc (.cells #[.int .i64 k, .int .i64 0] 61)
 have ha1 := hva.keeps k1
 go_wp2_with (first | (at_builtin; refine appN rfl (.tmp 9) (.tmp 10) rfl w.heap.size _ [⟨k, 0⟩] rfl h1 _ a rfl ha1 (by simp) (by simp; omega) ?_; intro v1 w1 hv1 hg1 hr1; have k2 : Keeps w w1 := k1.grown hg1 hr1; have hb1 := hvb.keeps k2) | (at_builtin; refine appN rfl (.tmp 11) (.tmp 12) rfl w.heap.size _ ([⟨k, 0⟩] ++ a) rfl (by assumption) _ b rfl (by assumption) (by have := k2.size; omega) (by simp; omega) ?_; intro v2 w2 hv2 hg2 hr2; have k3 : Keeps w w2 := k2.grown hg2 hr2))
 go_ret
 exact ⟨_, rfl, by simpa using hv2, k3⟩
set_option maxHeartbeats 400000 in
theorem l02Not_any (t : Fm) (v : Value) (w : World) (hv : Nds w v t.enc) (hl : t.enc.length ≤ 1073741824) :
  Calls Tryz.prog 142 #[v] w (RetN w (Fm.not t).enc) := by
 go_enter Tryz.func142, Tryz.ntmps142
 go_wp2_with (first | (go_at_call 88; refine (l02False_any _).mono ?_; rintro e w1 ⟨v1, rfl, hv1, k1⟩) | (go_at_call 89; refine (l02Pair_any _ _ _ _ _ _ (hv.keeps k1) (hv1.nds (by simp [Fm.enc])) (by simp [Fm.enc]; omega)).mono ?_; rintro e w2 ⟨v2, rfl, hv2, k2⟩))
 go_ret
 exact ⟨_, rfl, hv2.mono k1.size, k1.trans k2⟩
def madeL (a : List Nd) : List Nd × Int := if a.length ≤ 40 then (a, 0) else ([], 3)
theorem l02Made_any (a : List Nd) (v : Value) (w : World) (hv : Nds w v a) :
  Calls Tryz.prog 38 #[v] w fun e w' => e = .returned (.tuple #[if a.length ≤ 40 then v else .slice none 0 0, .int .i64 (madeL a).2]) ∧ w = w' := by
 obtain ⟨p, cap, rfl, hle, hmx, hr, hlen⟩ := hv
 unfold maxLen at hmx
 by_cases h : a.length ≤ 40
 all_goals
  go_enter Tryz.func38, Tryz.ntmps38
  go_wp2
  go_ret2
  exact ⟨by simp [h, madeL], rfl⟩
theorem made_own {w : World} {B : Nat} {v : Value} {a : List Nd} (h : OwnN w B v a) : OwnN w B (if a.length ≤ 40 then v else .slice none 0 0) (madeL a).1 := by
 unfold madeL
 by_cases h4 : a.length ≤ 40
 ·rw [if_pos h4, if_pos h4]; exact h
 ·rw [if_neg h4, if_neg h4]; exact OwnN.nil _ _
theorem madeL_len (a : List Nd) : (madeL a).1.length ≤ 40 := by unfold madeL; split <;> simp; omega
theorem l02Made_own (a : List Nd) (v : Value) (w : World) (B : Nat) (hv : OwnN w B v a) (hl : a.length ≤ 2147483648) :
  Calls Tryz.prog 38 #[v] w fun e w' => ∃ u, e = .returned (.tuple #[u, .int .i64 (madeL a).2]) ∧ OwnN w' B u (madeL a).1 ∧ w = w' :=
 (l02Made_any a v w (hv.nds hl)).mono fun e w' ⟨he, hw⟩ => ⟨_, he, by subst hw; exact made_own hv, hw⟩
set_option maxHeartbeats 400000 in
theorem l29Code_any (a : List Nd) (v : Value) (w : World) (hv : Nds w v a) :
  Calls Tryz.prog 37 #[v] w fun e w' => e = .returned (.int .i64 (plainErr a)) ∧ w = w' := by
 have h1 := l02Is_any a v
 have h2 := l02Plain_any a v
 cases hf : isFm a <;> cases hp : plainL a <;> rw [hf] at h1 <;> rw [hp] at h2
 all_goals
  have Hf := hid hf; clear hf
  have Hp := hid hp; clear hp
  have H1 := hid h1; clear h1
  have H2 := hid h2; clear h2
  go_enter Tryz.func37, Tryz.ntmps37
  go_wp2_with (first | (go_at_call 85; refine (H1.out _ hv).mono ?_; rintro e w' ⟨rfl, rfl⟩) | (go_at_call 86; refine (H2.out _ hv).mono ?_; rintro e w' ⟨rfl, rfl⟩))
  go_ret
  exact ⟨ret_int (by simp [plainErr, Hf.out, Hp.out]), rfl⟩
end Go.Proofs.YtfmmajgkjkmghaaGreat
namespace Go.Proofs.YtfmmajgkjkmghaaGreat
open Go.RowKit
structure FSt (w0 w : World) (bp s n : Nat) (pv : Value) (st : List Nat) (vS : Value) : Prop where
 kp : Keeps w0 w
 c0 : w.cell? ⟨bp, 0, none⟩ = some (.int .i64 n)
 c1 : w.cell? ⟨bp, 1, none⟩ = some pv
 cs : w.cell? ⟨s, 0, none⟩ = some vS
 fs : w.frozen? ⟨s, 0, none⟩ = false
 own : OwnI w (s + 1) vS (zs st)
theorem FSt.keeps {w0 w w' : World} {bp s n : Nat} {pv : Value} {st : List Nat} {vS : Value} (h : FSt w0 w bp s n pv st vS) (k : Keeps w w') : FSt w0 w' bp s n pv st vS :=
 ⟨h.kp.trans k, k.cell h.c0, k.cell h.c1, k.cell h.cs, by rw [(k.both).2 s 0 (World.block_lt_of_cell? _ _ h.cs)]; exact h.fs, h.own.keeps k⟩
theorem cell_row {w w' : World} {b o : Nat} {v : Value} {row : Option Nat} (hc : w.cell? ⟨b, o, none⟩ = some v) (k : w.grownBy w' row) (hb : ∀ r, row = some r → b ≠ r) : w'.cell? ⟨b, o, none⟩ = some v ∧ w'.frozen? ⟨b, o, none⟩ = w.frozen? ⟨b, o, none⟩ := by
 have h := (Touch.grown k).cell (b := b) (World.block_lt_of_cell? _ _ hc) (fun e => by exact absurd rfl (hb b (by simpa using e.symm)))
 exact ⟨by rw [h.1]; exact hc, h.2 o⟩
theorem FSt.push {w0 w w1 : World} {bp s n : Nat} {pv : Value} {st st2 : List Nat} {vS v1 : Value} (h : FSt w0 w bp s n pv st vS) (h0 : w0.heap.size ≤ bp) (hs : bp < s) {row : Option Nat} (hg : w.grownBy w1 row) (hr : ∀ k, row = some k → s + 1 ≤ k)
  (hv : OwnI w1 (s + 1) v1 (zs st2)) : FSt w0 (w1.setCell ⟨s, 0, none⟩ v1) bp s n pv st2 v1 := by
 have k2 := grown_set (w := w1) s 0 v1
 have a0 := cell_row h.c0 hg (fun r e => by have := hr r e; omega)
 have a1 := cell_row h.c1 hg (fun r e => by have := hr r e; omega)
 have aS := cell_row h.cs hg (fun r e => by have := hr r e; omega)
 refine ⟨(h.kp.grown hg (fun k e => by have := hr k e; omega)).setCell (by simp; omega) _, ?_, ?_, World.cell?_setCell_same _ _ _ aS.1, ?_, ?_⟩
 ·exact (cell_row a0.1 k2 (fun r e => by cases e; omega)).1
 ·exact (cell_row a1.1 k2 (fun r e => by cases e; omega)).1
 ·rw [World.frozen?_setCell, aS.2]; exact h.fs
 ·exact hv.setBelow (by omega) _
theorem zs_take (a : List Nat) (k : Nat) : (zs a).take k = zs (a.take k) := by simp [zs, List.map_take]
theorem enters_forced1 : Enters 101 := fun _ _ => by kernel_rfl
set_option maxRecDepth 20000 in
set_option maxHeartbeats 1000000 in
theorem forced_1_any (w0 w : World) (bp s n : Nat) (pv : Value) (st : List Nat) (x : Nat) (vS : Value) (h : FSt w0 w bp s n pv (st ++ [x]) vS) (h0 : w0.heap.size ≤ bp) (hs : bp < s) (hl : st.length ≤ 1000000) :
  Calls Tryz.prog 101 #[.pointer (some ⟨s, 0, none⟩)] w fun e w' => e = .returned (.int .i64 x) ∧ ∃ v', FSt w0 w' bp s n pv st v' := by
 have hsl := zs_length (st ++ [x])
 have hlen : (st ++ [x]).length = st.length + 1 := by simp
 obtain ⟨g, cap, rfl, hb, hg, hlc, hmx⟩ := h.own.shape (by rw [hsl, hlen]; omega)
 have hown := h.own
 rw [hsl, hlen] at hown hlc
 obtain hcell := hown.zcell (l := st ++ [x]) st.length (by rw [hlen]; omega)
 have hx : (st ++ [x]).getD st.length 0 = x := by simp [List.getD_eq_getElem?_getD]
 rw [hx] at hcell
 have hcut : OwnI w (s + 1) (.slice (some ⟨g, 0, none⟩) st.length cap) (zs st) := by
  have h1 : OwnI w (s + 1) (.slice (some ⟨g, 0, none⟩) (zs (st ++ [x])).length cap) (zs (st ++ [x])) := by rw [hsl, hlen]; exact hown
  have h2 := h1.cutI st.length (by rw [hsl, hlen]; omega)
  rw [zs_take, List.take_left' rfl] at h2
  exact h2
 have hres := h.push (st2 := st) h0 hs (grown_refl w none) (fun k e => by cases e) hcut
 have HRES := hid hres
 have hcs := h.cs
 have hfs := h.fs
 rw [hsl, hlen] at hcs
 have hm1 : ((st.length + 1 : Nat) : Int) - 1 = st.length := by omega
 clear h hown hcut hres hsl hlen hx
 generalize st.length = m at *
 unfold maxLen at hmx
 go_enter Tryz.func101, Tryz.ntmps101
 go_wp2_with fail
 go_ret
 exact ⟨rfl, _, HRES.out⟩
end Go.Proofs.YtfmmajgkjkmghaaGreat
namespace Go.Proofs.YtfmmajgkjkmghaaGreat
open Go.Sort
end Go.Proofs.YtfmmajgkjkmghaaGreat
namespace Go.Proofs.YtfmmajgkjkmghaaGreat
open Go.RowKit Go.Sort
structure RowV (w : World) (B : Nat) where
 v : Value
 l : List Nat
 ok : OwnI w B v (zs l)
 hl : l.length ≤ 100
instance (w : World) (B : Nat) : Inhabited (RowV w B) := ⟨⟨.slice none 0 0, [], OwnI.nil w B, by simp⟩⟩
end Go.Proofs.YtfmmajgkjkmghaaGreat
namespace Go.Proofs
open Go.Shelf
def Tryz.lays190_ren : Go.Shelf.Ren := ⟨fun | 190 => 210 | 125 => 227 | 258 => 226 | 128 => 249 | 129 => 250 | 302 => 240 | 303 => 241 | 304 => 242 | 305 => 243 | 306 => 244 | 307 => 245 | 308 => 246 | 309 => 247 | 310 => 248 | 333 => 257 | 329 => 258 | 330 => 259 | 334 => 260 | 335 => 261 | 336 => 262 | 344 => 269 | n => n, fun | 31 => 120 | 9 => 9 | 3 => 3 | 46 => 105 | 0 => 0 | 51 => 196 | 53 => 77 | 4 => 4 | 183 => 188 | 182 => 187 | 131 => 193 | 5 => 5 | 218 => 201 | 222 => 205 | 228 => 209 | 229 => 210 | n => n, fun | n => n⟩
theorem Tryz.lays190 : Go.Proofs.Lays.n190 Tryz.prog Tryz.lays190_ren := {
 mixed := by kernel_rfl
 f125 := Tryz.func227.trans (congrArg some (by kernel_rfl))
 f128 := Tryz.func249.trans (congrArg some (by kernel_rfl))
 f129 := Tryz.func250.trans (congrArg some (by kernel_rfl))
 f190 := Tryz.func210.trans (congrArg some (by kernel_rfl))
 f258 := Tryz.func226.trans (congrArg some (by kernel_rfl))
 f302 := Tryz.func240.trans (congrArg some (by kernel_rfl))
 f303 := Tryz.func241.trans (congrArg some (by kernel_rfl))
 f304 := Tryz.func242.trans (congrArg some (by kernel_rfl))
 f305 := Tryz.func243.trans (congrArg some (by kernel_rfl))
 f306 := Tryz.func244.trans (congrArg some (by kernel_rfl))
 f307 := Tryz.func245.trans (congrArg some (by kernel_rfl))
 f308 := Tryz.func246.trans (congrArg some (by kernel_rfl))
 f309 := Tryz.func247.trans (congrArg some (by kernel_rfl))
 f310 := Tryz.func248.trans (congrArg some (by kernel_rfl))
 f329 := Tryz.func258.trans (congrArg some (by kernel_rfl))
 f330 := Tryz.func259.trans (congrArg some (by kernel_rfl))
 f333 := Tryz.func257.trans (congrArg some (by kernel_rfl))
 f334 := Tryz.func260.trans (congrArg some (by kernel_rfl))
 f335 := Tryz.func261.trans (congrArg some (by kernel_rfl))
 f336 := Tryz.func262.trans (congrArg some (by kernel_rfl))
 f344 := Tryz.func269.trans (congrArg some (by kernel_rfl))
 t0 := Tryz.underlying0
 a0 := Tryz.isAgg0
 z0 := Tryz.sizeOf0
 v0 := Tryz.zeroValue0
 t3 := Tryz.underlying3
 a3 := Tryz.isAgg3
 z3 := Tryz.sizeOf3
 v3 := Tryz.zeroValue3
 t4 := Tryz.underlying4
 a4 := Tryz.isAgg4
 z4 := Tryz.sizeOf4
 v4 := Tryz.zeroValue4
 t5 := Tryz.underlying5
 a5 := Tryz.isAgg5
 z5 := Tryz.sizeOf5
 v5 := Tryz.zeroValue5
 t9 := Tryz.underlying9
 a9 := Tryz.isAgg9
 z9 := Tryz.sizeOf9
 v9 := Tryz.zeroValue9
 t31 := Tryz.underlying120
 a31 := Tryz.isAgg120
 z31 := Tryz.sizeOf120
 v31 := Tryz.zeroValue120
 t46 := Tryz.underlying105
 a46 := Tryz.isAgg105
 z46 := Tryz.sizeOf105
 v46 := Tryz.zeroValue105
 t51 := Tryz.underlying196
 a51 := Tryz.isAgg196
 z51 := Tryz.sizeOf196
 v51 := Tryz.zeroValue196
 t53 := Tryz.underlying77
 a53 := Tryz.isAgg77
 z53 := Tryz.sizeOf77
 v53 := Tryz.zeroValue77
 t131 := Tryz.underlying193
 a131 := Tryz.isAgg193
 z131 := Tryz.sizeOf193
 v131 := Tryz.zeroValue193
 t182 := Tryz.underlying187
 a182 := Tryz.isAgg187
 z182 := Tryz.sizeOf187
 v182 := Tryz.zeroValue187
 t183 := Tryz.underlying188
 a183 := Tryz.isAgg188
 z183 := Tryz.sizeOf188
 v183 := Tryz.zeroValue188
 t218 := Tryz.underlying201
 a218 := Tryz.isAgg201
 z218 := Tryz.sizeOf201
 v218 := Tryz.zeroValue201
 t222 := Tryz.underlying205
 a222 := Tryz.isAgg205
 z222 := Tryz.sizeOf205
 v222 := Tryz.zeroValue205
 t228 := Tryz.underlying209
 a228 := Tryz.isAgg209
 z228 := Tryz.sizeOf209
 v228 := Tryz.zeroValue209
 t229 := Tryz.underlying210
 a229 := Tryz.isAgg210
 z229 := Tryz.sizeOf210
 v229 := Tryz.zeroValue210 }
open Go.Sort Go.RowKit in
theorem Tryz.slices_Sort_string (blk off cap : Nat) (ss : List (List UInt8)) (w : World) (hH : Holds encStr w blk off ss.toArray) (hblk : blk < w.heap.size) (hsz : ss.length < 4611686018427387904) :
  Calls Tryz.prog 210 #[.slice (some ⟨blk, off, none⟩) ss.length cap] w fun e w' =>
   e = .returned (.tuple #[]) ∧ ∃ n os, w' = grow (putRow encStr (Sort.ahead w n) blk off (ss.mergeSort fun x y => decide (x ≤ y)).toArray) os := Any.slices_Sort_string Tryz.lays190 blk off cap ss w hH hblk hsz
def Tryz.lays110_ren : Go.Shelf.Ren := ⟨fun | 110 => 217 | 109 => 229 | n => n, fun | 31 => 120 | 9 => 9 | 4 => 4 | 3 => 3 | 0 => 0 | n => n, fun | n => n⟩
theorem Tryz.lays110 : Go.Proofs.Lays.n110 Tryz.prog Tryz.lays110_ren := {
 mixed := by kernel_rfl
 f109 := Tryz.func229.trans (congrArg some (by kernel_rfl))
 f110 := Tryz.func217.trans (congrArg some (by kernel_rfl))
 t0 := Tryz.underlying0
 a0 := Tryz.isAgg0
 z0 := Tryz.sizeOf0
 v0 := Tryz.zeroValue0
 t3 := Tryz.underlying3
 a3 := Tryz.isAgg3
 z3 := Tryz.sizeOf3
 v3 := Tryz.zeroValue3
 t4 := Tryz.underlying4
 a4 := Tryz.isAgg4
 z4 := Tryz.sizeOf4
 v4 := Tryz.zeroValue4
 t9 := Tryz.underlying9
 a9 := Tryz.isAgg9
 z9 := Tryz.sizeOf9
 v9 := Tryz.zeroValue9
 t31 := Tryz.underlying120
 a31 := Tryz.isAgg120
 z31 := Tryz.sizeOf120
 v31 := Tryz.zeroValue120 }
open Go.Lib in
theorem Tryz.slices_Contains_string (b off n c : Nat) (zs : List ByteArray) (x : ByteArray) (w : World) (hz : n ≤ zs.length) (hbig : n ≤ 9223372036854775807) (hc : ∀ j, j < zs.length → w.cell? ⟨b, off + j, none⟩ = some (.string (zs.getD j ByteArray.empty))) :
  Calls Tryz.prog 217 #[.slice (some ⟨b, off, none⟩) n c, .string x] w fun e w' => e = .returned (.bool (Lib.containsS (zs.take n) x)) ∧ w' = w := Any.slices_Contains_string Tryz.lays110 b off n c zs x w hz hbig hc
open Go.Lib in
theorem Tryz.slices_Contains_string_empty (a : Option Addr) (c : Nat) (x : ByteArray) (w : World) :
  Calls Tryz.prog 217 #[.slice a 0 c, .string x] w fun e w' => e = .returned (.bool false) ∧ w' = w := Any.slices_Contains_string_empty Tryz.lays110 a c x w
def Tryz.laysNm216_ren : Go.Shelf.Ren := ⟨fun | 16 => 267 | n => n, fun | 24 => 120 | 9 => 9 | 4 => 4 | n => n, fun | n => n⟩
theorem Tryz.laysNm216 : Go.Proofs.Lays2.n16 Tryz.prog Tryz.laysNm216_ren := {
 mixed := by kernel_rfl
 f16 := Tryz.func267.trans (congrArg some (by kernel_rfl))
 t4 := Tryz.underlying4
 a4 := Tryz.isAgg4
 z4 := Tryz.sizeOf4
 v4 := Tryz.zeroValue4
 t9 := Tryz.underlying9
 a9 := Tryz.isAgg9
 z9 := Tryz.sizeOf9
 v9 := Tryz.zeroValue9
 t24 := Tryz.underlying120
 a24 := Tryz.isAgg120
 z24 := Tryz.sizeOf120
 v24 := Tryz.zeroValue120
 i9 := by kernel_rfl }
open Go.RowKit Go.Lib in
theorem Tryz.slices_Clone_string (b off n c : Nat) (zs : List ByteArray) (w : World) (hz : n ≤ zs.length) (hbig : n * 16 ≤ 140737488355328) (hc : ∀ j, j < zs.length → w.cell? ⟨b, off + j, none⟩ = some (.string (zs.getD j ByteArray.empty))) :
  Calls Tryz.prog 267 #[.slice (some ⟨b, off, none⟩) n c] w fun e w' => ∃ v', e = .returned v' ∧ w'.ownsRow w.heap.size 9 1 v' n ((zs.take n).map (Value.string)) ∧ v' ≠ .slice none 0 0 ∧ Below w.heap.size w w' := Any.slices_Clone_string Tryz.laysNm216 b off n c zs w hz hbig hc
def Tryz.lays194_ren : Go.Shelf.Ren := ⟨fun | 194 => 211 | n => n, fun | 31 => 120 | 9 => 9 | 3 => 3 | 4 => 4 | 0 => 0 | n => n, fun | n => n⟩
theorem Tryz.lays194 : Go.Proofs.Lays.n194 Tryz.prog Tryz.lays194_ren := {
 mixed := by kernel_rfl
 f194 := Tryz.func211.trans (congrArg some (by kernel_rfl))
 t0 := Tryz.underlying0
 a0 := Tryz.isAgg0
 z0 := Tryz.sizeOf0
 v0 := Tryz.zeroValue0
 t3 := Tryz.underlying3
 a3 := Tryz.isAgg3
 z3 := Tryz.sizeOf3
 v3 := Tryz.zeroValue3
 t4 := Tryz.underlying4
 a4 := Tryz.isAgg4
 z4 := Tryz.sizeOf4
 v4 := Tryz.zeroValue4
 t9 := Tryz.underlying9
 a9 := Tryz.isAgg9
 z9 := Tryz.sizeOf9
 v9 := Tryz.zeroValue9
 t31 := Tryz.underlying120
 a31 := Tryz.isAgg120
 z31 := Tryz.sizeOf120
 v31 := Tryz.zeroValue120 }
open Go.RowKit Go.Lib Go.Sort in
theorem Tryz.slices_Compact_string (blk off cap : Nat) (zs : List (List UInt8)) (w : World) (hH : Holds encStr w blk off zs.toArray) (hsz : zs.length ≤ 9223372036854775807) (hcap : zs.length ≤ cap) :
  Calls Tryz.prog 211 #[.slice (some ⟨blk, off, none⟩) zs.length cap] w fun e w' => e = .returned (.slice (some ⟨blk, off, none⟩) (Lib.compact zs).length cap) ∧ ∃ q, w' = putRow encStr (Sort.ahead w q) blk off (Lib.compact zs ++ List.replicate (zs.length - (Lib.compact zs).length) []).toArray := Any.slices_Compact_string Tryz.lays194 blk off cap zs w hH hsz hcap
open Go.RowKit Go.Lib Go.Sort in
theorem Tryz.slices_Compact_string_empty (a : Option Addr) (cap : Nat) (w : World) :
  Calls Tryz.prog 211 #[.slice a 0 cap] w fun e w' => e = .returned (.slice a 0 cap) ∧ w' = w := Any.slices_Compact_string_empty Tryz.lays194 a cap w
open Go.RowKit Go.Sort in
theorem Tryz.slices_Sort_string_none (p : Option Addr) (cap : Nat) (w : World) :
  Calls Tryz.prog 210 #[.slice p 0 cap] w fun e w' => e = .returned (.tuple #[]) ∧ w' = w := Any.slices_Sort_string_none Tryz.lays190 p cap w
end Go.Proofs
