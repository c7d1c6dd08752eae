import Derived.Test.YtkkcfifnkcnceaaGreatHV5
import Derived.Test.YtkkcfifnkcnceaaGreatHW5
import Derived.Lib.AppendZeros
import Derived.Shelf.Small.Bits
import Derived.Shelf.Strconv.Itoa0
import Derived.Shelf.Sort.Plain
import Derived.Shelf.Slices.Turned
import Derived.Shelf.Slices.Equal
import Derived.Ground.Names2Prog
import Derived.Shelf.Slices.Clone
import Derived.Shelf.Slices.CompactS
import Derived.Shelf.Slices.Cells
import Derived.Shelf.Slices.In.SortNone
import Derived.Shelf.Slices.Empties2
import Derived.Ground.SlgnProg
import Derived.Shelf.SlicesE.Clone
import Derived.Test.YtkkcfifnkcnceaaGreatProg
import Derived.Sort.OwnSorted
import Derived.Sort.Grow
import Derived.Lib.OwnBridge
/- slices.Grow and slices.Concat at []string. -/
namespace Go.Proofs.YtkkcfifnkcnceaaGreat
open Go.RowKit
def RetSt (w : World) (r : List ByteArray) (e : Ending) (w' : World) : Prop := ∃ v, e = .returned v ∧ OwnS w' w.heap.size v r ∧ Keeps w w'
def StrL (w : World) (v : Value) (xs : List (List ByteArray)) : Prop := SlC 1 (fun w f x => Strs w (f 0) x) w v xs
theorem StrL.keeps {w w' : World} {v : Value} {xs : List (List ByteArray)} (h : StrL w v xs) (k : Keeps w w') : StrL w' v xs :=
 SlC.keeps (R := fun w f x => Strs w (f 0) x) (fun _ _ _ _ k h => Strs.keeps h k) h k
theorem StrL.get {w : World} {p : Option Addr} {n cap : Nat} {xs : List (List ByteArray)} (h : StrL w (.slice p n cap) xs) (i : Nat) (hi : i < xs.length) :
  ∃ b off u, p = some ⟨b, off, none⟩ ∧ w.cell? ⟨b, off + i, none⟩ = some u ∧ Strs w u xs[i] := by
 obtain ⟨p', cap', hv, h1, h2, h3, h4⟩ := h
 cases hv
 obtain ⟨b, off, f, hp, hc, hr⟩ := h4 i hi
 exact ⟨b, off, f 0, hp, by simpa using hc 0 (by omega), hr⟩
theorem StrL.lit2 {w : World} {u u' : Value} {x x' : List ByteArray} (h : Strs w u x) (h' : Strs w u' x') : StrL (w.alloc (.cells #[u, u'] 24)) (.slice (some ⟨w.heap.size, 0, none⟩) 2 2) [x, x'] :=
 SlC.lit (R := fun w f x => Strs w (f 0) x) (fun _ _ _ _ k h => Strs.keeps h k) w _ [u, u'] [x, x'] rfl (by simp) (fun i h1 h2 => by
  simp at h1
  have hi : i = 0 ∨ i = 1 := by omega
  rcases hi with rfl | rfl
  ·exact h
  ·exact h')
set_option maxRecDepth 20000 in
set_option maxHeartbeats 400000 in
theorem growS_any (n : Nat) (w : World) (hn : n ≤ 2147483648) :
  Calls Tryz.prog 141 #[.slice none 0 0, .int .i64 n] w (RetSt w []) := by
 obtain ⟨i0, hi, hz0, hz1, hz2⟩ := info_parts infoS
 by_cases h0 : 0 < n
 ·have hrun := Lib.run_append_nil_zeros (P := Tryz.prog) w 24 3 24 9 i0 _ .i64 .i64 Tryz.underlying24 Tryz.underlying3 hi hz0 n h0 (by rw [hz1]; decide) (by omega) (by rw [hz2]; omega)
  have hge := grownCap_ge w n 0 9
  have hle := grownCap_le_maxLen w n 0 9 (by unfold maxLen; omega)
  unfold maxLen at hle
  have hown : OwnS (w.drew.alloc (.cells (Builtin.zeroCells (Value.string ⟨#[]⟩).cells n ++ Builtin.zeroCells (Value.string ⟨#[]⟩).cells (grownCap w n 0 9 - n)) 9)) w.heap.size (.slice (some ⟨w.heap.size, 0, none⟩) 0 (grownCap w n 0 9)) [] := by
   refine World.ownsRow_made w.drew _ _ (Nat.le_refl _) (by unfold maxLen; omega) ?_
   rw [Array.size_append, zeroCells_size, zeroCells_size]
   simp [Value.cells]
   omega
  have hk := ((Keeps.refl w).drew).alloc (.cells (Builtin.zeroCells (Value.string ⟨#[]⟩).cells n ++ Builtin.zeroCells (Value.string ⟨#[]⟩).cells (grownCap w n 0 9 - n)) 9)
  generalize w.drew.alloc (.cells (Builtin.zeroCells (Value.string ⟨#[]⟩).cells n ++ Builtin.zeroCells (Value.string ⟨#[]⟩).cells (grownCap w n 0 9 - n)) 9) = w1 at hrun hown hk
  generalize grownCap w n 0 9 = c1 at *
  have HR := hid hrun; clear hrun
  clear hz0 hz1 hz2 hi
  go_enter Tryz.func141, Tryz.ntmps141
  go_wp2_with (at_builtin; refine Lib.wpList_append_run _ rfl _ _ _ _ rfl _ _ rfl rfl _ _ HR.out ?_)
  go_ret
  exact ⟨_, rfl, hown, hk⟩
 ·obtain rfl : n = 0 := by omega
  go_enter Tryz.func141, Tryz.ntmps141
  go_wp2
  go_ret
  exact ⟨_, rfl, OwnS.nil _ _, Keeps.refl _⟩
set_option maxHeartbeats 1000000 in
theorem concatS_any (l : List (List ByteArray)) (v : Value) (w : World) (hv : StrL w v l) (hl : (fl l l.length).length ≤ 2147483648) :
  Calls Tryz.prog 96 #[v] w (RetSt w (fl l l.length)) := by
 have hv0 := hv
 obtain ⟨p, cap, rfl, hle, hmx, hlen, _⟩ := hv
 unfold maxLen at hmx
 go_enter Tryz.func96, Tryz.ntmps96
 go_wp2
 go_loop [3, 11] (fun s i' => ∃ k : Nat, k ≤ l.length ∧ i' = .int .i64 k ∧ s = .int .i64 (fl l k).length) (fun _ i => l.length - (intOf i).toNat)
 case atStart => exact ⟨0, by omega, rfl, rfl⟩
 case round =>
  obtain ⟨k, hk, rfl, rfl⟩ := hrel
  have hf := fl_le l k
  by_cases hlt : k < l.length
  ·obtain ⟨b, off, u, rfl, h1, hu0⟩ := hv0.get k hlt
   obtain ⟨pu, capu, rfl, g1, g2, g3, g4⟩ := hu0.at
   have hft := fl_succ l k hlt
   have hf2 := fl_le l (k + 1)
   have hlen2 : (fl l (k + 1)).length = (fl l k).length + l[k].length := by rw [hft]; simp
   have hsum : (fl l k).length + l[k].length ≤ 2147483648 := by omega
   have HL := hid hlen2; clear hlen2 hft hf2
   clear hv0
   go_wp2
   go_round
   case rel => exact ⟨k + 1, by omega, by go_num, by rw [HL.out]; go_num⟩
   case measure => simp [intOf]; omega
  ·obtain rfl : k = l.length := by omega
   clear hf hk hlt
   go_wp2_with (go_at_call 141; refine (growS_any _ _ hl).mono ?_; rintro e w1 ⟨v1, rfl, hv1, k1⟩)
   go_loopw [6, 27] (fun s i' wr => ∃ k : Nat, k ≤ l.length ∧ i' = .int .i64 k ∧ OwnS wr w.heap.size s (fl l k) ∧ Keeps w wr) (fun _ i _ => l.length - (intOf i).toNat)
   case atStart => exact ⟨0, by omega, rfl, hv1, k1⟩
   case round =>
    obtain ⟨k, hk, rfl, hown, kw⟩ := hrel
    by_cases hlt : k < l.length
    ·obtain ⟨b, off, u, rfl, h1, hu⟩ := (hv0.keeps kw).get k hlt
     have hft := fl_succ l k hlt
     have hf2 := fl_le l (k + 1)
     have hsum : (fl l k).length + l[k].length ≤ 2147483648 := by
      have : (fl l (k + 1)).length = (fl l k).length + l[k].length := by rw [hft]; simp
      omega
     have HF := hid hft; clear hft hf2
     clear hv0
     have hsz := kw.size
     go_wp2_with (at_builtin; refine appS rfl _ _ rfl w.heap.size _ _ rfl hown _ _ rfl hu hsz hsum ?_; intro v2 w2 hv2 hg2 hr2; have k2 : Keeps w w2 := kw.grown hg2 hr2)
     go_roundw
     case rel => exact ⟨k + 1, by omega, by go_num, by rw [HF.out]; exact hv2, k2⟩
     case measure => simp [intOf]; omega
    ·obtain rfl : k = l.length := by omega
     go_wp2
     go_ret
     exact ⟨_, rfl, hown, kw⟩
end Go.Proofs.YtkkcfifnkcnceaaGreat
namespace Go.Proofs
open Go.Shelf
def Tryz.lays190_ren : Go.Shelf.Ren := ⟨fun | 190 => 94 | 125 => 140 | 258 => 139 | 128 => 190 | 129 => 191 | 302 => 181 | 303 => 182 | 304 => 183 | 305 => 184 | 306 => 185 | 307 => 186 | 308 => 187 | 309 => 188 | 310 => 189 | 333 => 206 | 329 => 207 | 330 => 208 | 334 => 209 | 335 => 210 | 336 => 211 | 344 => 218 | n => n, fun | 31 => 24 | 9 => 9 | 3 => 3 | 46 => 86 | 0 => 0 | 51 => 197 | 53 => 80 | 4 => 4 | 183 => 189 | 182 => 188 | 131 => 194 | 5 => 5 | 218 => 206 | 222 => 210 | 228 => 215 | 229 => 216 | n => n, fun | n => n⟩
theorem Tryz.lays190 : Go.Proofs.Lays.n190 Tryz.prog Tryz.lays190_ren := {
 mixed := by kernel_rfl
 f125 := Tryz.func140.trans (congrArg some (by kernel_rfl))
 f128 := Tryz.func190.trans (congrArg some (by kernel_rfl))
 f129 := Tryz.func191.trans (congrArg some (by kernel_rfl))
 f190 := Tryz.func94.trans (congrArg some (by kernel_rfl))
 f258 := Tryz.func139.trans (congrArg some (by kernel_rfl))
 f302 := Tryz.func181.trans (congrArg some (by kernel_rfl))
 f303 := Tryz.func182.trans (congrArg some (by kernel_rfl))
 f304 := Tryz.func183.trans (congrArg some (by kernel_rfl))
 f305 := Tryz.func184.trans (congrArg some (by kernel_rfl))
 f306 := Tryz.func185.trans (congrArg some (by kernel_rfl))
 f307 := Tryz.func186.trans (congrArg some (by kernel_rfl))
 f308 := Tryz.func187.trans (congrArg some (by kernel_rfl))
 f309 := Tryz.func188.trans (congrArg some (by kernel_rfl))
 f310 := Tryz.func189.trans (congrArg some (by kernel_rfl))
 f329 := Tryz.func207.trans (congrArg some (by kernel_rfl))
 f330 := Tryz.func208.trans (congrArg some (by kernel_rfl))
 f333 := Tryz.func206.trans (congrArg some (by kernel_rfl))
 f334 := Tryz.func209.trans (congrArg some (by kernel_rfl))
 f335 := Tryz.func210.trans (congrArg some (by kernel_rfl))
 f336 := Tryz.func211.trans (congrArg some (by kernel_rfl))
 f344 := Tryz.func218.trans (congrArg some (by kernel_rfl))
 t0 := Tryz.underlying0
 a0 := Tryz.isAgg0
 z0 := Tryz.sizeOf0
 v0 := Tryz.zeroValue0
 t3 := Tryz.underlying3
 a3 := Tryz.isAgg3
 z3 := Tryz.sizeOf3
 v3 := Tryz.zeroValue3
 t4 := Tryz.underlying4
 a4 := Tryz.isAgg4
 z4 := Tryz.sizeOf4
 v4 := Tryz.zeroValue4
 t5 := Tryz.underlying5
 a5 := Tryz.isAgg5
 z5 := Tryz.sizeOf5
 v5 := Tryz.zeroValue5
 t9 := Tryz.underlying9
 a9 := Tryz.isAgg9
 z9 := Tryz.sizeOf9
 v9 := Tryz.zeroValue9
 t31 := Tryz.underlying24
 a31 := Tryz.isAgg24
 z31 := Tryz.sizeOf24
 v31 := Tryz.zeroValue24
 t46 := Tryz.underlying86
 a46 := Tryz.isAgg86
 z46 := Tryz.sizeOf86
 v46 := Tryz.zeroValue86
 t51 := Tryz.underlying197
 a51 := Tryz.isAgg197
 z51 := Tryz.sizeOf197
 v51 := Tryz.zeroValue197
 t53 := Tryz.underlying80
 a53 := Tryz.isAgg80
 z53 := Tryz.sizeOf80
 v53 := Tryz.zeroValue80
 t131 := Tryz.underlying194
 a131 := Tryz.isAgg194
 z131 := Tryz.sizeOf194
 v131 := Tryz.zeroValue194
 t182 := Tryz.underlying188
 a182 := Tryz.isAgg188
 z182 := Tryz.sizeOf188
 v182 := Tryz.zeroValue188
 t183 := Tryz.underlying189
 a183 := Tryz.isAgg189
 z183 := Tryz.sizeOf189
 v183 := Tryz.zeroValue189
 t218 := Tryz.underlying206
 a218 := Tryz.isAgg206
 z218 := Tryz.sizeOf206
 v218 := Tryz.zeroValue206
 t222 := Tryz.underlying210
 a222 := Tryz.isAgg210
 z222 := Tryz.sizeOf210
 v222 := Tryz.zeroValue210
 t228 := Tryz.underlying215
 a228 := Tryz.isAgg215
 z228 := Tryz.sizeOf215
 v228 := Tryz.zeroValue215
 t229 := Tryz.underlying216
 a229 := Tryz.isAgg216
 z229 := Tryz.sizeOf216
 v229 := Tryz.zeroValue216 }
open Go.Sort Go.RowKit in
theorem Tryz.slices_Sort_string (blk off cap : Nat) (ss : List (List UInt8)) (w : World) (hH : Holds encStr w blk off ss.toArray) (hblk : blk < w.heap.size) (hsz : ss.length < 4611686018427387904) :
  Calls Tryz.prog 94 #[.slice (some ⟨blk, off, none⟩) ss.length cap] w fun e w' =>
   e = .returned (.tuple #[]) ∧ ∃ n os, w' = grow (putRow encStr (Sort.ahead w n) blk off (ss.mergeSort fun x y => decide (x ≤ y)).toArray) os := Any.slices_Sort_string Tryz.lays190 blk off cap ss w hH hblk hsz
def Tryz.lays110_ren : Go.Shelf.Ren := ⟨fun | 110 => 61 | 109 => 111 | n => n, fun | 31 => 24 | 9 => 9 | 4 => 4 | 3 => 3 | 0 => 0 | n => n, fun | n => n⟩
theorem Tryz.lays110 : Go.Proofs.Lays.n110 Tryz.prog Tryz.lays110_ren := {
 mixed := by kernel_rfl
 f109 := Tryz.func111.trans (congrArg some (by kernel_rfl))
 f110 := Tryz.func61.trans (congrArg some (by kernel_rfl))
 t0 := Tryz.underlying0
 a0 := Tryz.isAgg0
 z0 := Tryz.sizeOf0
 v0 := Tryz.zeroValue0
 t3 := Tryz.underlying3
 a3 := Tryz.isAgg3
 z3 := Tryz.sizeOf3
 v3 := Tryz.zeroValue3
 t4 := Tryz.underlying4
 a4 := Tryz.isAgg4
 z4 := Tryz.sizeOf4
 v4 := Tryz.zeroValue4
 t9 := Tryz.underlying9
 a9 := Tryz.isAgg9
 z9 := Tryz.sizeOf9
 v9 := Tryz.zeroValue9
 t31 := Tryz.underlying24
 a31 := Tryz.isAgg24
 z31 := Tryz.sizeOf24
 v31 := Tryz.zeroValue24 }
open Go.Lib in
theorem Tryz.slices_Contains_string (b off n c : Nat) (zs : List ByteArray) (x : ByteArray) (w : World) (hz : n ≤ zs.length) (hbig : n ≤ 9223372036854775807) (hc : ∀ j, j < zs.length → w.cell? ⟨b, off + j, none⟩ = some (.string (zs.getD j ByteArray.empty))) :
  Calls Tryz.prog 61 #[.slice (some ⟨b, off, none⟩) n c, .string x] w fun e w' => e = .returned (.bool (Lib.containsS (zs.take n) x)) ∧ w' = w := Any.slices_Contains_string Tryz.lays110 b off n c zs x w hz hbig hc
open Go.Lib in
theorem Tryz.slices_Contains_string_empty (a : Option Addr) (c : Nat) (x : ByteArray) (w : World) :
  Calls Tryz.prog 61 #[.slice a 0 c, .string x] w fun e w' => e = .returned (.bool false) ∧ w' = w := Any.slices_Contains_string_empty Tryz.lays110 a c x w
def Tryz.lays193_ren : Go.Shelf.Ren := ⟨fun | 193 => 205 | n => n, fun | 31 => 24 | 9 => 9 | 4 => 4 | 3 => 3 | 0 => 0 | n => n, fun | n => n⟩
theorem Tryz.lays193 : Go.Proofs.Lays.n193 Tryz.prog Tryz.lays193_ren := {
 mixed := by kernel_rfl
 f193 := Tryz.func205.trans (congrArg some (by kernel_rfl))
 t0 := Tryz.underlying0
 a0 := Tryz.isAgg0
 z0 := Tryz.sizeOf0
 v0 := Tryz.zeroValue0
 t3 := Tryz.underlying3
 a3 := Tryz.isAgg3
 z3 := Tryz.sizeOf3
 v3 := Tryz.zeroValue3
 t4 := Tryz.underlying4
 a4 := Tryz.isAgg4
 z4 := Tryz.sizeOf4
 v4 := Tryz.zeroValue4
 t9 := Tryz.underlying9
 a9 := Tryz.isAgg9
 z9 := Tryz.sizeOf9
 v9 := Tryz.zeroValue9
 t31 := Tryz.underlying24
 a31 := Tryz.isAgg24
 z31 := Tryz.sizeOf24
 v31 := Tryz.zeroValue24 }
open Go.RowKit Go.Lib in
theorem Tryz.slices_Equal_string (b1 o1 n c b2 o2 m d : Nat) (xs ys : List ByteArray) (w : World) (hx : n ≤ xs.length) (hy : m ≤ ys.length) (hbig : n ≤ 9223372036854775807) (hbig2 : m ≤ 9223372036854775807) (hc1 : ∀ j, j < xs.length → w.cell? ⟨b1, o1 + j, none⟩ = some (.string (xs.getD j ByteArray.empty))) (hc2 : ∀ j, j < ys.length → w.cell? ⟨b2, o2 + j, none⟩ = some (.string (ys.getD j ByteArray.empty))) :
  Calls Tryz.prog 205 #[.slice (some ⟨b1, o1, none⟩) n c, .slice (some ⟨b2, o2, none⟩) m d] w fun e w' => e = .returned (.bool (decide (xs.take n = ys.take m))) ∧ ∃ q, w' = w.drewN q := Any.slices_Equal_string Tryz.lays193 b1 o1 n c b2 o2 m d xs ys w hx hy hbig hbig2 hc1 hc2
open Go.RowKit Go.Lib in
theorem Tryz.slices_Equal_string_empty (a1 a2 : Option Addr) (c m d : Nat) (w : World) (hbig2 : m ≤ 9223372036854775807) :
  Calls Tryz.prog 205 #[.slice a1 0 c, .slice a2 m d] w fun e w' => e = .returned (.bool (decide (m = 0))) ∧ w' = w := Any.slices_Equal_string_empty Tryz.lays193 a1 a2 c m d w hbig2
def Tryz.laysNm216_ren : Go.Shelf.Ren := ⟨fun | 16 => 118 | n => n, fun | 24 => 24 | 9 => 9 | 4 => 4 | n => n, fun | n => n⟩
theorem Tryz.laysNm216 : Go.Proofs.Lays2.n16 Tryz.prog Tryz.laysNm216_ren := {
 mixed := by kernel_rfl
 f16 := Tryz.func118.trans (congrArg some (by kernel_rfl))
 t4 := Tryz.underlying4
 a4 := Tryz.isAgg4
 z4 := Tryz.sizeOf4
 v4 := Tryz.zeroValue4
 t9 := Tryz.underlying9
 a9 := Tryz.isAgg9
 z9 := Tryz.sizeOf9
 v9 := Tryz.zeroValue9
 t24 := Tryz.underlying24
 a24 := Tryz.isAgg24
 z24 := Tryz.sizeOf24
 v24 := Tryz.zeroValue24
 i9 := by kernel_rfl }
open Go.RowKit Go.Lib in
theorem Tryz.slices_Clone_string (b off n c : Nat) (zs : List ByteArray) (w : World) (hz : n ≤ zs.length) (hbig : n * 16 ≤ 140737488355328) (hc : ∀ j, j < zs.length → w.cell? ⟨b, off + j, none⟩ = some (.string (zs.getD j ByteArray.empty))) :
  Calls Tryz.prog 118 #[.slice (some ⟨b, off, none⟩) n c] w fun e w' => ∃ v', e = .returned v' ∧ w'.ownsRow w.heap.size 9 1 v' n ((zs.take n).map (Value.string)) ∧ v' ≠ .slice none 0 0 ∧ Below w.heap.size w w' := Any.slices_Clone_string Tryz.laysNm216 b off n c zs w hz hbig hc
open Go.RowKit Go.Lib in
theorem Tryz.slices_Clone_string_nil (n c : Nat) (w : World) :
  Calls Tryz.prog 118 #[.slice none n c] w fun e w' => e = .returned (.slice none 0 0) ∧ w' = w := Any.slices_Clone_string_nil Tryz.laysNm216 n c w
open Go.RowKit Go.Lib in
theorem Tryz.slices_Clone_string_zero (a : Addr) (c : Nat) (w : World) :
  Calls Tryz.prog 118 #[.slice (some a) 0 c] w fun e w' => ∃ v', e = .returned v' ∧ w'.ownsRow w.heap.size 9 1 v' 0 [] ∧ v' ≠ .slice none 0 0 ∧ Below w.heap.size w w' := Any.slices_Clone_string_zero Tryz.laysNm216 a c w
def Tryz.lays194_ren : Go.Shelf.Ren := ⟨fun | 194 => 95 | n => n, fun | 31 => 24 | 9 => 9 | 3 => 3 | 4 => 4 | 0 => 0 | n => n, fun | n => n⟩
theorem Tryz.lays194 : Go.Proofs.Lays.n194 Tryz.prog Tryz.lays194_ren := {
 mixed := by kernel_rfl
 f194 := Tryz.func95.trans (congrArg some (by kernel_rfl))
 t0 := Tryz.underlying0
 a0 := Tryz.isAgg0
 z0 := Tryz.sizeOf0
 v0 := Tryz.zeroValue0
 t3 := Tryz.underlying3
 a3 := Tryz.isAgg3
 z3 := Tryz.sizeOf3
 v3 := Tryz.zeroValue3
 t4 := Tryz.underlying4
 a4 := Tryz.isAgg4
 z4 := Tryz.sizeOf4
 v4 := Tryz.zeroValue4
 t9 := Tryz.underlying9
 a9 := Tryz.isAgg9
 z9 := Tryz.sizeOf9
 v9 := Tryz.zeroValue9
 t31 := Tryz.underlying24
 a31 := Tryz.isAgg24
 z31 := Tryz.sizeOf24
 v31 := Tryz.zeroValue24 }
open Go.RowKit Go.Lib Go.Sort in
theorem Tryz.slices_Compact_string (blk off cap : Nat) (zs : List (List UInt8)) (w : World) (hH : Holds encStr w blk off zs.toArray) (hsz : zs.length ≤ 9223372036854775807) (hcap : zs.length ≤ cap) :
  Calls Tryz.prog 95 #[.slice (some ⟨blk, off, none⟩) zs.length cap] w fun e w' => e = .returned (.slice (some ⟨blk, off, none⟩) (Lib.compact zs).length cap) ∧ ∃ q, w' = putRow encStr (Sort.ahead w q) blk off (Lib.compact zs ++ List.replicate (zs.length - (Lib.compact zs).length) []).toArray := Any.slices_Compact_string Tryz.lays194 blk off cap zs w hH hsz hcap
open Go.RowKit Go.Lib Go.Sort in
theorem Tryz.slices_Compact_string_empty (a : Option Addr) (cap : Nat) (w : World) :
  Calls Tryz.prog 95 #[.slice a 0 cap] w fun e w' => e = .returned (.slice a 0 cap) ∧ w' = w := Any.slices_Compact_string_empty Tryz.lays194 a cap w
open Go.RowKit Go.Sort in
theorem Tryz.slices_Sort_string_none (p : Option Addr) (cap : Nat) (w : World) :
  Calls Tryz.prog 94 #[.slice p 0 cap] w fun e w' => e = .returned (.tuple #[]) ∧ w' = w := Any.slices_Sort_string_none Tryz.lays190 p cap w
open Go.RowKit Go.Lib in
theorem Tryz.slices_Equal_string_lens (a1 a2 : Option Addr) (n c m d : Nat) (w : World) (hnm : n ≠ m) :
  Calls Tryz.prog 205 #[.slice a1 n c, .slice a2 m d] w fun e w' => e = .returned (.bool false) ∧ w' = w := Any.slices_Equal_string_lens Tryz.lays193 a1 a2 n c m d w hnm
end Go.Proofs
namespace Go.Proofs.YtkkcfifnkcnceaaGreat
open Go.RowKit Go.Sort
def mkS (b : List UInt8) : ByteArray := ⟨b.toArray⟩
theorem bts_mkS (b : List UInt8) : bts (mkS b) = b := by simp [bts, mkS]
theorem enc_bts (s : ByteArray) : encStr (bts s) = .string s := by simp [encStr, bts]
theorem enc_mkS (b : List UInt8) : Value.string (mkS b) = encStr b := by simp [encStr, mkS]
theorem cells_enc (ss : List ByteArray) : strCells ss = (ss.map bts).map encStr := by
 simp [strCells, Function.comp_def, enc_bts]
def sortB (bs : List (List UInt8)) : List (List UInt8) := Lib.compact (bs.mergeSort fun x y => decide (x ≤ y))
def putL (ss tt : List ByteArray) : List ByteArray := (sortB ((ss ++ tt).map bts)).map mkS
theorem putL_cells (ss tt : List ByteArray) : strCells (putL ss tt) = (sortB ((ss ++ tt).map bts)).map encStr := by
 simp [putL, strCells, Function.comp_def, enc_mkS]
theorem sorted_own {w w1 : World} {g cap n nn q : Nat} {os : Array Obj} {bs : List (List UInt8)} (hown : w1.ownsRow w.heap.size 9 1 (.slice (some ⟨g, 0, none⟩) n cap) n (bs.map encStr)) (hbel : Keeps w w1) (hbg : w.heap.size ≤ g) (hlen : bs.length = n) :
  let w2 := putRow encStr (Sort.ahead (grow (putRow encStr (Sort.ahead w1 nn) g 0 (bs.mergeSort fun x y => decide (x ≤ y)).toArray) os) q) g 0 (sortB bs ++ List.replicate (n - (sortB bs).length) []).toArray
  w2.ownsRow w.heap.size 9 1 (.slice (some ⟨g, 0, none⟩) (sortB bs).length cap) (sortB bs).length ((sortB bs).map encStr) ∧ Keeps w w2 := by
 have hl2 : (bs.mergeSort fun x y => decide (x ≤ y)).length = bs.length := List.length_mergeSort bs
 have hle : (sortB bs).length ≤ _ := Lib.compact_length_le (bs.mergeSort fun x y => decide (x ≤ y))
 subst hlen
 rcases hown.2 with ⟨h0, _⟩ | ⟨g', cap', cur, hv, hbase, hb, h1, h2, h3, h4⟩
 ·cases h0
 cases hv
 have hs := ownsRow_sorted (n := nn) (os := os) (ts := bs.mergeSort fun x y => decide (x ≤ y)) hl2 hbase hb h1 h2 h3
 have hc := Lib.ownsRow_putRow (q := q) (k := (sortB bs).length) (ys := sortB bs ++ List.replicate (bs.length - (sortB bs).length) []) hs (by simp; omega) (by omega)
 rw [List.take_left] at hc
 exact ⟨hc, Lib.below_putRow (Below.grown hbel (grownBy_sorted _) hbel.size (fun j hj => by cases hj; exact hbase)) hbg⟩
theorem sorted_holds {w1 : World} {B g cap n nn : Nat} {os : Array Obj} {bs : List (List UInt8)} (hown : w1.ownsRow B 9 1 (.slice (some ⟨g, 0, none⟩) n cap) n (bs.map encStr)) (hlen : bs.length = n) :
  Holds encStr (grow (putRow encStr (Sort.ahead w1 nn) g 0 (bs.mergeSort fun x y => decide (x ≤ y)).toArray) os) g 0 (bs.mergeSort fun x y => decide (x ≤ y)).toArray := by
 have hl2 : (bs.mergeSort fun x y => decide (x ≤ y)).length = bs.length := List.length_mergeSort bs
 subst hlen
 rcases hown.2 with ⟨h0, _⟩ | ⟨g', cap', cur, hv, hbase, hb, h1, h2, h3, h4⟩
 ·cases h0
 cases hv
 have hs := ownsRow_sorted (n := nn) (os := os) (ts := bs.mergeSort fun x y => decide (x ≤ y)) hl2 hbase hb h1 h2 h3
 obtain ⟨g2, c2, e, _, _, _, _, _, hH⟩ := Lib.holds_of_ownsRow hs (by simp)
 cases e
 exact hH
def CompR (w : World) (bs : List (List UInt8)) (v1 : Value) (w2 : World) : Prop :=
 Calls Tryz.prog 95 #[v1] w2 fun e w3 => ∃ v', e = .returned v' ∧ OwnS w3 w.heap.size v' ((sortB bs).map mkS) ∧ Keeps w w3
theorem sortS_any (bs : List (List UInt8)) (v1 : Value) (w w1 : World) (hv1 : OwnS w1 w.heap.size v1 (bs.map mkS)) (kw : Keeps w w1) (hbs : bs.length ≤ 1000000000) :
  Calls Tryz.prog 94 #[v1] w1 fun e w2 => e = .returned (.tuple #[]) ∧ CompR w bs v1 w2 := by
 by_cases hn : v1 = .slice none 0 0
 ·subst hn
  have h0 : bs = [] := by
   obtain ⟨p, c, e, _⟩ := At.of_own hv1
   injection e with _ e2 _
   have := List.eq_nil_of_length_eq_zero e2.symm
   simpa using this
  subst h0
  refine (Tryz.slices_Sort_string_none none 0 w1).mono ?_; rintro e w' ⟨rfl, rfl⟩
  refine ⟨rfl, (Tryz.slices_Compact_string_empty none 0 _).mono ?_⟩; rintro e w' ⟨rfl, rfl⟩
  exact ⟨_, rfl, (by simpa [sortB, Lib.compact, Lib.compactUpTo] using OwnS.nil _ _), kw⟩
 ·have hce : strCells (bs.map mkS) = bs.map encStr := by simp [strCells, Function.comp_def, enc_mkS]
  have hown : w1.ownsRow w.heap.size 9 1 v1 bs.length (bs.map encStr) := by
   have := hv1
   unfold OwnS at this
   rwa [hce, List.length_map] at this
  obtain ⟨g, cap, rfl, hbg, hgl, hncap, hcm, hlen, hH⟩ := Lib.holds_of_ownsRow hown hn
  have hsort := Tryz.slices_Sort_string g 0 cap bs w1 hH hgl (by omega)
  refine hsort.mono ?_; rintro e w2 ⟨rfl, nn, os, rfl⟩
  refine ⟨rfl, ?_⟩
  have hH2 := sorted_holds (nn := nn) (os := os) hown rfl
  have hlm : (bs.mergeSort fun x y => decide (x ≤ y)).length = bs.length := List.length_mergeSort bs
  have hcomp := Tryz.slices_Compact_string g 0 cap (bs.mergeSort fun x y => decide (x ≤ y)) _ hH2 (by omega) (by omega)
  rw [hlm] at hcomp
  refine hcomp.mono ?_; rintro e w3 ⟨rfl, q, rfl⟩
  obtain ⟨ho, hk⟩ := sorted_own (w := w) (nn := nn) (q := q) (os := os) hown kw hbg rfl
  refine ⟨_, rfl, ?_, hk⟩
  unfold OwnS
  rw [List.length_map, show strCells ((sortB bs).map mkS) = (sortB bs).map encStr by simp [strCells, Function.comp_def, enc_mkS]]
  exact ho
end Go.Proofs.YtkkcfifnkcnceaaGreat
