/-
  DERIVED: THE SHELF's CONTRACTS AT THIS DUMP, IN PLAIN WORDS (tools/lay-plain.mjs out of 'Shelf.lean', which tools/lay-shelf.mjs wrote): THE SAME DECLARATIONS UNDER THE SAME NAMES: 'import', 'namespace', 'open', 'def', 'theorem' AND NOTHING ELSE: no command of the shelf's: FOR A HAND-IN. Each laying: the table of numbers ('.._ren') and one theorem, a field a fact of the dump's own or the kernel's comparison; each contract: ONE APPLICATION.
-/
import Derived.Shelf.Small.Bits
import Derived.Shelf.Strconv.Itoa0
import Derived.Shelf.Sort.Plain
import Derived.Shelf.Slices.CompactS
import Derived.Shelf.Slices.Cells
import Derived.Shelf.Slices.In.SortNone
import Derived.Test.YtgnlfceloiilbaaGreatProg
import Derived.Test.YtgnlfceloiilbaaGreatGV8
import Derived.Sort.OwnSorted
import Derived.Sort.Grow
import Derived.Lib.OwnBridge
namespace Go.Proofs
open Go.Shelf
def Tryz.lays128_ren : Go.Shelf.Ren := ⟨fun | 128 => 324 | n => n, fun | 51 => 314 | 3 => 3 | 4 => 4 | 46 => 140 | 5 => 5 | 9 => 9 | n => n, fun | n => n⟩
theorem Tryz.lays128 : Go.Proofs.Lays.n128 Tryz.prog Tryz.lays128_ren := {
  mixed := by kernel_rfl
  f128 := Tryz.func324.trans (congrArg some (by kernel_rfl))
  t3 := Tryz.underlying3
  a3 := Tryz.isAgg3
  z3 := Tryz.sizeOf3
  v3 := Tryz.zeroValue3
  t4 := Tryz.underlying4
  a4 := Tryz.isAgg4
  z4 := Tryz.sizeOf4
  v4 := Tryz.zeroValue4
  t5 := Tryz.underlying5
  a5 := Tryz.isAgg5
  z5 := Tryz.sizeOf5
  v5 := Tryz.zeroValue5
  t9 := Tryz.underlying9
  a9 := Tryz.isAgg9
  z9 := Tryz.sizeOf9
  v9 := Tryz.zeroValue9
  t46 := Tryz.underlying140
  a46 := Tryz.isAgg140
  z46 := Tryz.sizeOf140
  v46 := Tryz.zeroValue140
  t51 := Tryz.underlying314
  a51 := Tryz.isAgg314
  z51 := Tryz.sizeOf314
  v51 := Tryz.zeroValue314 }
/-- bits.Len32: "Len32 returns the minimum number of bits required to represent x; the result is 0 for x == 0.": IT RETURNS 'Lib.bitLen x'; the world is as it was. ('h0', 'h1': x is a uint32.) (LAID: no walk: one application.) -/
theorem Tryz.bits_Len32 (x : Int) (w : World) (h0 : 0 ≤ x) (h1 : x ≤ 4294967295) :
    Calls Tryz.prog 324 #[.int .u32 x] w fun e w' => e = .returned (.int .i64 (Lib.bitLen x.toNat)) ∧ w' = w := Any.bits_Len32 Tryz.lays128 x w h0 h1
def Tryz.lays125_ren : Go.Shelf.Ren := ⟨fun | 125 => 264 | 128 => 324 | 129 => 325 | n => n, fun | 46 => 140 | 3 => 3 | 51 => 314 | 53 => 69 | 4 => 4 | 5 => 5 | 9 => 9 | n => n, fun | n => n⟩
theorem Tryz.lays125 : Go.Proofs.Lays.n125 Tryz.prog Tryz.lays125_ren := {
  mixed := by kernel_rfl
  f125 := Tryz.func264.trans (congrArg some (by kernel_rfl))
  f128 := Tryz.func324.trans (congrArg some (by kernel_rfl))
  f129 := Tryz.func325.trans (congrArg some (by kernel_rfl))
  t3 := Tryz.underlying3
  a3 := Tryz.isAgg3
  z3 := Tryz.sizeOf3
  v3 := Tryz.zeroValue3
  t4 := Tryz.underlying4
  a4 := Tryz.isAgg4
  z4 := Tryz.sizeOf4
  v4 := Tryz.zeroValue4
  t5 := Tryz.underlying5
  a5 := Tryz.isAgg5
  z5 := Tryz.sizeOf5
  v5 := Tryz.zeroValue5
  t9 := Tryz.underlying9
  a9 := Tryz.isAgg9
  z9 := Tryz.sizeOf9
  v9 := Tryz.zeroValue9
  t46 := Tryz.underlying140
  a46 := Tryz.isAgg140
  z46 := Tryz.sizeOf140
  v46 := Tryz.zeroValue140
  t51 := Tryz.underlying314
  a51 := Tryz.isAgg314
  z51 := Tryz.sizeOf314
  v51 := Tryz.zeroValue314
  t53 := Tryz.underlying69
  a53 := Tryz.isAgg69
  z53 := Tryz.sizeOf69
  v53 := Tryz.zeroValue69 }
/-- bits.Len: "Len returns the minimum number of bits required to represent x; the result is 0 for x == 0.": IT RETURNS 'Lib.bitLen x'; the world is as it was. (A uint has 64 bits in the model.) ITS CALLEE bits.Len64 IS MET BY ITS OWN CONTRACT OFF THE SHELF (lay that first). (LAID: no walk: one application.) -/
theorem Tryz.bits_Len (x : Int) (w : World) (h0 : 0 ≤ x) (h1 : x ≤ 18446744073709551615) :
    Calls Tryz.prog 264 #[.int .u64 x] w fun e w' => e = .returned (.int .i64 (Lib.bitLen x.toNat)) ∧ w' = w := Any.bits_Len Tryz.lays125 x w h0 h1
def Tryz.lays129_ren : Go.Shelf.Ren := ⟨fun | 129 => 325 | n => n, fun | 53 => 69 | 3 => 3 | 4 => 4 | 46 => 140 | 5 => 5 | 9 => 9 | n => n, fun | n => n⟩
theorem Tryz.lays129 : Go.Proofs.Lays.n129 Tryz.prog Tryz.lays129_ren := {
  mixed := by kernel_rfl
  f129 := Tryz.func325.trans (congrArg some (by kernel_rfl))
  t3 := Tryz.underlying3
  a3 := Tryz.isAgg3
  z3 := Tryz.sizeOf3
  v3 := Tryz.zeroValue3
  t4 := Tryz.underlying4
  a4 := Tryz.isAgg4
  z4 := Tryz.sizeOf4
  v4 := Tryz.zeroValue4
  t5 := Tryz.underlying5
  a5 := Tryz.isAgg5
  z5 := Tryz.sizeOf5
  v5 := Tryz.zeroValue5
  t9 := Tryz.underlying9
  a9 := Tryz.isAgg9
  z9 := Tryz.sizeOf9
  v9 := Tryz.zeroValue9
  t46 := Tryz.underlying140
  a46 := Tryz.isAgg140
  z46 := Tryz.sizeOf140
  v46 := Tryz.zeroValue140
  t53 := Tryz.underlying69
  a53 := Tryz.isAgg69
  z53 := Tryz.sizeOf69
  v53 := Tryz.zeroValue69 }
/-- bits.Len64: "Len64 returns the minimum number of bits required to represent x; the result is 0 for x == 0.": IT RETURNS 'Lib.bitLen x'; the world is as it was. ('h0', 'h1': x is a uint64.) (LAID: no walk: one application.) -/
theorem Tryz.bits_Len64 (x : Int) (w : World) (h0 : 0 ≤ x) (h1 : x ≤ 18446744073709551615) :
    Calls Tryz.prog 325 #[.int .u64 x] w fun e w' => e = .returned (.int .i64 (Lib.bitLen x.toNat)) ∧ w' = w := Any.bits_Len64 Tryz.lays129 x w h0 h1
def Tryz.lays190_ren : Go.Shelf.Ren := ⟨fun | 190 => 186 | 125 => 264 | 258 => 263 | 128 => 324 | 129 => 325 | 302 => 315 | 303 => 316 | 304 => 317 | 305 => 318 | 306 => 319 | 307 => 320 | 308 => 321 | 309 => 322 | 310 => 323 | 333 => 343 | 329 => 344 | 330 => 345 | 334 => 346 | 335 => 347 | 336 => 348 | 344 => 358 | n => n, fun | 31 => 22 | 9 => 9 | 3 => 3 | 46 => 140 | 0 => 0 | 51 => 314 | 53 => 69 | 4 => 4 | 183 => 306 | 182 => 305 | 131 => 311 | 5 => 5 | 218 => 329 | 222 => 333 | 228 => 340 | 229 => 341 | n => n, fun | n => n⟩
theorem Tryz.lays190 : Go.Proofs.Lays.n190 Tryz.prog Tryz.lays190_ren := {
  mixed := by kernel_rfl
  f125 := Tryz.func264.trans (congrArg some (by kernel_rfl))
  f128 := Tryz.func324.trans (congrArg some (by kernel_rfl))
  f129 := Tryz.func325.trans (congrArg some (by kernel_rfl))
  f190 := Tryz.func186.trans (congrArg some (by kernel_rfl))
  f258 := Tryz.func263.trans (congrArg some (by kernel_rfl))
  f302 := Tryz.func315.trans (congrArg some (by kernel_rfl))
  f303 := Tryz.func316.trans (congrArg some (by kernel_rfl))
  f304 := Tryz.func317.trans (congrArg some (by kernel_rfl))
  f305 := Tryz.func318.trans (congrArg some (by kernel_rfl))
  f306 := Tryz.func319.trans (congrArg some (by kernel_rfl))
  f307 := Tryz.func320.trans (congrArg some (by kernel_rfl))
  f308 := Tryz.func321.trans (congrArg some (by kernel_rfl))
  f309 := Tryz.func322.trans (congrArg some (by kernel_rfl))
  f310 := Tryz.func323.trans (congrArg some (by kernel_rfl))
  f329 := Tryz.func344.trans (congrArg some (by kernel_rfl))
  f330 := Tryz.func345.trans (congrArg some (by kernel_rfl))
  f333 := Tryz.func343.trans (congrArg some (by kernel_rfl))
  f334 := Tryz.func346.trans (congrArg some (by kernel_rfl))
  f335 := Tryz.func347.trans (congrArg some (by kernel_rfl))
  f336 := Tryz.func348.trans (congrArg some (by kernel_rfl))
  f344 := Tryz.func358.trans (congrArg some (by kernel_rfl))
  t0 := Tryz.underlying0
  a0 := Tryz.isAgg0
  z0 := Tryz.sizeOf0
  v0 := Tryz.zeroValue0
  t3 := Tryz.underlying3
  a3 := Tryz.isAgg3
  z3 := Tryz.sizeOf3
  v3 := Tryz.zeroValue3
  t4 := Tryz.underlying4
  a4 := Tryz.isAgg4
  z4 := Tryz.sizeOf4
  v4 := Tryz.zeroValue4
  t5 := Tryz.underlying5
  a5 := Tryz.isAgg5
  z5 := Tryz.sizeOf5
  v5 := Tryz.zeroValue5
  t9 := Tryz.underlying9
  a9 := Tryz.isAgg9
  z9 := Tryz.sizeOf9
  v9 := Tryz.zeroValue9
  t31 := Tryz.underlying22
  a31 := Tryz.isAgg22
  z31 := Tryz.sizeOf22
  v31 := Tryz.zeroValue22
  t46 := Tryz.underlying140
  a46 := Tryz.isAgg140
  z46 := Tryz.sizeOf140
  v46 := Tryz.zeroValue140
  t51 := Tryz.underlying314
  a51 := Tryz.isAgg314
  z51 := Tryz.sizeOf314
  v51 := Tryz.zeroValue314
  t53 := Tryz.underlying69
  a53 := Tryz.isAgg69
  z53 := Tryz.sizeOf69
  v53 := Tryz.zeroValue69
  t131 := Tryz.underlying311
  a131 := Tryz.isAgg311
  z131 := Tryz.sizeOf311
  v131 := Tryz.zeroValue311
  t182 := Tryz.underlying305
  a182 := Tryz.isAgg305
  z182 := Tryz.sizeOf305
  v182 := Tryz.zeroValue305
  t183 := Tryz.underlying306
  a183 := Tryz.isAgg306
  z183 := Tryz.sizeOf306
  v183 := Tryz.zeroValue306
  t218 := Tryz.underlying329
  a218 := Tryz.isAgg329
  z218 := Tryz.sizeOf329
  v218 := Tryz.zeroValue329
  t222 := Tryz.underlying333
  a222 := Tryz.isAgg333
  z222 := Tryz.sizeOf333
  v222 := Tryz.zeroValue333
  t228 := Tryz.underlying340
  a228 := Tryz.isAgg340
  z228 := Tryz.sizeOf340
  v228 := Tryz.zeroValue340
  t229 := Tryz.underlying341
  a229 := Tryz.isAgg341
  z229 := Tryz.sizeOf341
  v229 := Tryz.zeroValue341 }
open Go.Sort Go.RowKit in
theorem Tryz.slices_Sort_string (blk off cap : Nat) (ss : List (List UInt8)) (w : World) (hH : Holds encStr w blk off ss.toArray) (hblk : blk < w.heap.size) (hsz : ss.length < 4611686018427387904) :
    Calls Tryz.prog 186 #[.slice (some ⟨blk, off, none⟩) ss.length cap] w fun e w' =>
      e = .returned (.tuple #[]) ∧ ∃ n os, w' = grow (putRow encStr (Sort.ahead w n) blk off (ss.mergeSort fun x y => decide (x ≤ y)).toArray) os := Any.slices_Sort_string Tryz.lays190 blk off cap ss w hH hblk hsz
def Tryz.lays194_ren : Go.Shelf.Ren := ⟨fun | 194 => 187 | n => n, fun | 31 => 22 | 9 => 9 | 3 => 3 | 4 => 4 | 0 => 0 | n => n, fun | n => n⟩
theorem Tryz.lays194 : Go.Proofs.Lays.n194 Tryz.prog Tryz.lays194_ren := {
  mixed := by kernel_rfl
  f194 := Tryz.func187.trans (congrArg some (by kernel_rfl))
  t0 := Tryz.underlying0
  a0 := Tryz.isAgg0
  z0 := Tryz.sizeOf0
  v0 := Tryz.zeroValue0
  t3 := Tryz.underlying3
  a3 := Tryz.isAgg3
  z3 := Tryz.sizeOf3
  v3 := Tryz.zeroValue3
  t4 := Tryz.underlying4
  a4 := Tryz.isAgg4
  z4 := Tryz.sizeOf4
  v4 := Tryz.zeroValue4
  t9 := Tryz.underlying9
  a9 := Tryz.isAgg9
  z9 := Tryz.sizeOf9
  v9 := Tryz.zeroValue9
  t31 := Tryz.underlying22
  a31 := Tryz.isAgg22
  z31 := Tryz.sizeOf22
  v31 := Tryz.zeroValue22 }
open Go.RowKit Go.Lib Go.Sort in
/-- slices.Compact at []string, over an array: the library's two loops are walked. (LAID: no walk: one application.) -/
theorem Tryz.slices_Compact_string_arr (blk off cap : Nat) (d : Array (List UInt8)) (w : World) (hH : Holds encStr w blk off d) (hsz : d.size ≤ 9223372036854775807) (hcap : d.size ≤ cap) :
    Calls Tryz.prog 187 #[.slice (some ⟨blk, off, none⟩) d.size cap] w fun e w' => e = .returned (.slice (some ⟨blk, off, none⟩) (compactUpTo d d.size).length cap) ∧ ∃ q, w' = putRow encStr (Sort.ahead w q) blk off (compactUpTo d d.size ++ List.replicate (d.size - (compactUpTo d d.size).length) []).toArray := Any.slices_Compact_string_arr Tryz.lays194 blk off cap d w hH hsz hcap
open Go.RowKit Go.Lib Go.Sort in
/-- slices.Compact at []string: "Compact replaces consecutive runs of equal elements with a single copy. This is like the uniq command found on Unix. Compact modifies the contents of the slice s and returns the modified slice, which may have a smaller length. Compact zeroes the elements between the new length and the original length. The result preserves the nilness of s.": IT RETURNS THE SLICE CUT TO 'Lib.compact zs'; ITS CELLS HOLD 'Lib.compact zs', THEN ZERO VALUES up to the old length; all else is as it was, but for the count of draws. IN THE WORDS OF slices.Sort's CONTRACT ('Holds', 'putRow'): so the everyday 'slices.Sort(xs); xs = slices.Compact(xs)' goes from the one contract to the other. It asks 'zs.length ≤ cap' (every slice's: the reslicing 's[:k]' looks at it). Length 0, nil: '.._empty'. (LAID: no walk: one application.) -/
theorem Tryz.slices_Compact_string (blk off cap : Nat) (zs : List (List UInt8)) (w : World) (hH : Holds encStr w blk off zs.toArray) (hsz : zs.length ≤ 9223372036854775807) (hcap : zs.length ≤ cap) :
    Calls Tryz.prog 187 #[.slice (some ⟨blk, off, none⟩) zs.length cap] w fun e w' => e = .returned (.slice (some ⟨blk, off, none⟩) (Lib.compact zs).length cap) ∧ ∃ q, w' = putRow encStr (Sort.ahead w q) blk off (Lib.compact zs ++ List.replicate (zs.length - (Lib.compact zs).length) []).toArray := Any.slices_Compact_string Tryz.lays194 blk off cap zs w hH hsz hcap
open Go.RowKit Go.Lib Go.Sort in
/-- The same at a slice of length 0, a nil one too: it comes back as it is. (LAID: no walk: one application.) -/
theorem Tryz.slices_Compact_string_empty (a : Option Addr) (cap : Nat) (w : World) :
    Calls Tryz.prog 187 #[.slice a 0 cap] w fun e w' => e = .returned (.slice a 0 cap) ∧ w' = w := Any.slices_Compact_string_empty Tryz.lays194 a cap w
open Go.RowKit Go.Lib Go.Sort in
/-- slices.Compact at []string, of an argument. (LAID: no walk: one application.) -/
theorem Tryz.slices_Compact_string_cells (b off n c : Nat) (Sx : Nat → ByteArray) (w : World) (hbig : n ≤ 9223372036854775807) (hcap : n ≤ c) (hc : ∀ i, i < n → w.cell? ⟨b, off + i, none⟩ = some (.string (Sx i))) (hf : ∀ j, j < n → w.frozen? ⟨b, off + j, none⟩ = false) :
    Calls Tryz.prog 187 #[.slice (some ⟨b, off, none⟩) n c] w fun e w' => e = .returned (.slice (some ⟨b, off, none⟩) (Lib.compact (Lib.strsOf Sx n)).length c) ∧ ∃ q, w' = (w.drewN q).setCells b off ((Lib.compact (Lib.strsOf Sx n) ++ List.replicate (n - (Lib.compact (Lib.strsOf Sx n)).length) []).map encStr) := Any.slices_Compact_string_cells Tryz.lays194 b off n c Sx w hbig hcap hc hf
open Go.RowKit Go.Sort in
/-- .. and plain. (LAID: no walk: one application.) -/
theorem Tryz.slices_Sort_string_none (p : Option Addr) (cap : Nat) (w : World) :
    Calls Tryz.prog 186 #[.slice p 0 cap] w fun e w' => e = .returned (.tuple #[]) ∧ w' = w := Any.slices_Sort_string_none Tryz.lays190 p cap w
end Go.Proofs
/- Sort, Compact at []string (turned from the kit's UniqWalks). -/
namespace Go.Proofs.YtgnlfceloiilbaaGreat
open Go.RowKit Go.Sort
def mkS (b : List UInt8) : ByteArray := ⟨b.toArray⟩
theorem bts_mkS (b : List UInt8) : bts (mkS b) = b := by simp [bts, mkS]
theorem enc_bts (s : ByteArray) : encStr (bts s) = .string s := by simp [encStr, bts]
theorem enc_mkS (b : List UInt8) : Value.string (mkS b) = encStr b := by simp [encStr, mkS]
theorem cells_enc (ss : List ByteArray) : strCells ss = (ss.map bts).map encStr := by
  simp [strCells, Function.comp_def, enc_bts]
def sortB (bs : List (List UInt8)) : List (List UInt8) := Lib.compact (bs.mergeSort fun x y => decide (x ≤ y))
/-- what put hands back -/
def putL (ss tt : List ByteArray) : List ByteArray := (sortB ((ss ++ tt).map bts)).map mkS
theorem putL_cells (ss tt : List ByteArray) : strCells (putL ss tt) = (sortB ((ss ++ tt).map bts)).map encStr := by
  simp [putL, strCells, Function.comp_def, enc_mkS]
theorem sorted_own {w w1 : World} {g cap n nn q : Nat} {os : Array Obj} {bs : List (List UInt8)} (hown : w1.ownsRow w.heap.size 9 1 (.slice (some ⟨g, 0, none⟩) n cap) n (bs.map encStr)) (hbel : Keeps w w1) (hbg : w.heap.size ≤ g) (hlen : bs.length = n) :
    let w2 := putRow encStr (Sort.ahead (grow (putRow encStr (Sort.ahead w1 nn) g 0 (bs.mergeSort fun x y => decide (x ≤ y)).toArray) os) q) g 0 (sortB bs ++ List.replicate (n - (sortB bs).length) []).toArray
    w2.ownsRow w.heap.size 9 1 (.slice (some ⟨g, 0, none⟩) (sortB bs).length cap) (sortB bs).length ((sortB bs).map encStr) ∧ Keeps w w2 := by
  have hl2 : (bs.mergeSort fun x y => decide (x ≤ y)).length = bs.length := List.length_mergeSort bs
  have hle : (sortB bs).length ≤ _ := Lib.compact_length_le (bs.mergeSort fun x y => decide (x ≤ y))
  subst hlen
  rcases hown.2 with ⟨h0, _⟩ | ⟨g', cap', cur, hv, hbase, hb, h1, h2, h3, h4⟩
  · cases h0
  cases hv
  have hs := ownsRow_sorted (n := nn) (os := os) (ts := bs.mergeSort fun x y => decide (x ≤ y)) hl2 hbase hb h1 h2 h3
  have hc := Lib.ownsRow_putRow (q := q) (k := (sortB bs).length) (ys := sortB bs ++ List.replicate (bs.length - (sortB bs).length) []) hs (by simp; omega) (by omega)
  rw [List.take_left] at hc
  exact ⟨hc, Lib.below_putRow (Below.grown hbel (grownBy_sorted _) hbel.size (fun j hj => by cases hj; exact hbase)) hbg⟩
theorem sorted_holds {w1 : World} {B g cap n nn : Nat} {os : Array Obj} {bs : List (List UInt8)} (hown : w1.ownsRow B 9 1 (.slice (some ⟨g, 0, none⟩) n cap) n (bs.map encStr)) (hlen : bs.length = n) :
    Holds encStr (grow (putRow encStr (Sort.ahead w1 nn) g 0 (bs.mergeSort fun x y => decide (x ≤ y)).toArray) os) g 0 (bs.mergeSort fun x y => decide (x ≤ y)).toArray := by
  have hl2 : (bs.mergeSort fun x y => decide (x ≤ y)).length = bs.length := List.length_mergeSort bs
  subst hlen
  rcases hown.2 with ⟨h0, _⟩ | ⟨g', cap', cur, hv, hbase, hb, h1, h2, h3, h4⟩
  · cases h0
  cases hv
  have hs := ownsRow_sorted (n := nn) (os := os) (ts := bs.mergeSort fun x y => decide (x ≤ y)) hl2 hbase hb h1 h2 h3
  obtain ⟨g2, c2, e, _, _, _, _, _, hH⟩ := Lib.holds_of_ownsRow hs (by simp)
  cases e
  exact hH
--
/-- what Compact makes of a sorted row -/
def CompR (w : World) (bs : List (List UInt8)) (v1 : Value) (w2 : World) : Prop :=
  Calls Tryz.prog 187 #[v1] w2 fun e w3 => ∃ v', e = .returned v' ∧ OwnS w3 w.heap.size v' ((sortB bs).map mkS) ∧ Keeps w w3
theorem sortS_any (bs : List (List UInt8)) (v1 : Value) (w w1 : World) (hv1 : OwnS w1 w.heap.size v1 (bs.map mkS)) (kw : Keeps w w1) (hbs : bs.length ≤ 1000000000) :
    Calls Tryz.prog 186 #[v1] w1 fun e w2 => e = .returned (.tuple #[]) ∧ CompR w bs v1 w2 := by
  by_cases hn : v1 = .slice none 0 0
  · subst hn
    have h0 : bs = [] := by
      obtain ⟨p, c, e, _⟩ := At.of_own hv1
      injection e with _ e2 _
      have := List.eq_nil_of_length_eq_zero e2.symm
      simpa using this
    subst h0
    refine (Tryz.slices_Sort_string_none none 0 w1).mono ?_; rintro e w' ⟨rfl, rfl⟩
    refine ⟨rfl, (Tryz.slices_Compact_string_empty none 0 _).mono ?_⟩; rintro e w' ⟨rfl, rfl⟩
    exact ⟨_, rfl, (by simpa [sortB, Lib.compact, Lib.compactUpTo] using OwnS.nil _ _), kw⟩
  · have hce : strCells (bs.map mkS) = bs.map encStr := by simp [strCells, Function.comp_def, enc_mkS]
    have hown : w1.ownsRow w.heap.size 9 1 v1 bs.length (bs.map encStr) := by
      have := hv1
      unfold OwnS at this
      rwa [hce, List.length_map] at this
    obtain ⟨g, cap, rfl, hbg, hgl, hncap, hcm, hlen, hH⟩ := Lib.holds_of_ownsRow hown hn
    have hsort := Tryz.slices_Sort_string g 0 cap bs w1 hH hgl (by omega)
    refine hsort.mono ?_; rintro e w2 ⟨rfl, nn, os, rfl⟩
    refine ⟨rfl, ?_⟩
    have hH2 := sorted_holds (nn := nn) (os := os) hown rfl
    have hlm : (bs.mergeSort fun x y => decide (x ≤ y)).length = bs.length := List.length_mergeSort bs
    have hcomp := Tryz.slices_Compact_string g 0 cap (bs.mergeSort fun x y => decide (x ≤ y)) _ hH2 (by omega) (by omega)
    rw [hlm] at hcomp
    refine hcomp.mono ?_; rintro e w3 ⟨rfl, q, rfl⟩
    obtain ⟨ho, hk⟩ := sorted_own (w := w) (nn := nn) (q := q) (os := os) hown kw hbg rfl
    refine ⟨_, rfl, ?_, hk⟩
    unfold OwnS
    rw [List.length_map, show strCells ((sortB bs).map mkS) = (sortB bs).map encStr by simp [strCells, Function.comp_def, enc_mkS]]
    exact ho
end Go.Proofs.YtgnlfceloiilbaaGreat
/- Walks: the program's joins, negations and checks of lists. -/
namespace Go.Proofs.YtgnlfceloiilbaaGreat
open Go.RowKit

--
theorem falsum_any (w : World) : Calls Tryz.prog 206 #[] w (RetN w Fm.fls.enc) := by
  go_enter Tryz.func206, Tryz.ntmps206
  go_wp2
  go_ret
  exact ⟨_, rfl, OwnN.lit1 w ⟨1, 0⟩, (Keeps.refl w).alloc _⟩
--
set_option maxHeartbeats 400000 in
theorem join_any (k : Int) (a b : List Nd) (va vb : Value) (w : World) (hva : Nds w va a) (hvb : Nds w vb b) (hl : 1 + a.length + b.length ≤ 2147483648) :
    Calls Tryz.prog 110 #[.int .i64 k, va, vb] w (RetN w (⟨k, 0⟩ :: (a ++ b))) := by
  obtain ⟨pa, na, ca, rfl⟩ := hva.shape
  obtain ⟨pb, nb, cb, rfl⟩ := hvb.shape
  have k1 := (Keeps.refl w).alloc (.cells #[.int .i64 k, .int .i64 0] 145)
  have h1 := (OwnN.lit1 w ⟨k, 0⟩).nds (by simp)
  have h2 := NdsL.lit3N (N := w.heap.size + 1) (by simp) h1 (hva.keeps k1) (hvb.keeps k1)
  have k2 := k1.alloc (.cells #[.slice (some ⟨w.heap.size, 0, none⟩) 1 1, .slice pa na ca, .slice pb nb cb] 73)
  have hfl : fl [[⟨k, 0⟩], a, b] [[⟨k, 0⟩], a, b].length = ⟨k, 0⟩ :: (a ++ b) := by simp [fl]
  have hfl2 : (fl [[⟨k, 0⟩], a, b] [[(⟨k, 0⟩ : Nd)], a, b].length).length ≤ 2147483648 := by rw [hfl]; simp; omega
  have hc := concatN_any _ _ _ h2 hfl2
  rw [hfl] at hc
  have HC := hid hc
  clear hfl2 h1 h2 hfl hc
  go_enter Tryz.func110, Tryz.ntmps110
  go_wp2_with (go_at_call 204; go_must (refine HC.out.mono ?_); rintro e w3 ⟨v3, rfl, hv3, k3⟩)
  go_ret
  exact ⟨_, rfl, hv3.mono k2.size, k2.trans k3⟩
--
set_option maxHeartbeats 400000 in
theorem negation_any (t : Fm) (v : Value) (w : World) (hv : Nds w v t.enc) (hl : t.enc.length ≤ 1073741824) :
    Calls Tryz.prog 368 #[v] w (RetN w (Fm.not t).enc) := by
  go_enter Tryz.func368, Tryz.ntmps368
  go_wp2_with (first | (go_at_call 206; refine (falsum_any _).mono ?_; rintro e w1 ⟨v1, rfl, hv1, k1⟩) | (go_at_call 110; refine (join_any _ _ _ _ _ _ (hv.keeps k1) (hv1.nds (by simp [Fm.enc])) (by simp [Fm.enc]; omega)).mono ?_; rintro e w2 ⟨v2, rfl, hv2, k2⟩))
  go_ret
  exact ⟨_, rfl, hv2.mono k1.size, k1.trans k2⟩
--
theorem limited_any (a : List Nd) (v : Value) (w : World) (hv : Nds w v a) :
    Calls Tryz.prog 109 #[v] w fun e w' => e = .returned (.tuple #[if a.length ≤ 40 then v else .slice none 0 0, .int .i64 (madeL a).2]) ∧ w = w' := by
  obtain ⟨p, cap, rfl, hle, hmx, hr, hlen⟩ := hv
  unfold maxLen at hmx
  by_cases h : a.length ≤ 40
  all_goals
    go_enter Tryz.func109, Tryz.ntmps109
    go_wp2
    go_ret2
    exact ⟨by simp [h, madeL], rfl⟩
--
theorem limited_own (a : List Nd) (v : Value) (w : World) (B : Nat) (hv : OwnN w B v a) (hl : a.length ≤ 2147483648) :
    Calls Tryz.prog 109 #[v] w fun e w' => ∃ u, e = .returned (.tuple #[u, .int .i64 (madeL a).2]) ∧ OwnN w' B u (madeL a).1 ∧ w = w' :=
  (limited_any a v w (hv.nds hl)).mono fun e w' ⟨he, hw⟩ => ⟨_, he, by subst hw; exact made_own hv, hw⟩
--
set_option maxHeartbeats 400000 in
theorem indexFuncL (pr : List Nd → Bool) (f : FuncId) (cp : Array Value) (a : List (List Nd)) (v : Value) (w : World) (hv : NdsL w v a) (hcf : Enters f)
    (hf : ∀ x u w1, x ∈ a → Keeps w w1 → Nds w1 u x → Calls Tryz.prog f (#[u] ++ cp) w1 fun e w2 => e = .returned (.bool (pr x)) ∧ Keeps w1 w2) :
    Calls Tryz.prog 236 #[v, .func (.func f) #[] cp] w fun e w' => e = .returned (.int .i64 (idxOf pr a 0)) ∧ Keeps w w' := by
  have hv0 := hv
  obtain ⟨p, cap, rfl, hle, hmx, hlen, _⟩ := hv
  unfold maxLen at hmx
  have HF := hid hf; clear hf
  have hcf' : ∀ args w, (callFunc f args).run Tryz.prog w = .ok (.enter f args) w := hcf
  clear hcf
  go_enter Tryz.func236, Tryz.ntmps236
  go_wp2
  go_loopw [4, 8] (fun r i' wr => ∃ k : Nat, k ≤ a.length ∧ idxOf pr a 0 = idxOf pr (a.drop k) k ∧ Keeps w wr ∧ i' = .int .i64 k ∧ r = .int .i64 0) (fun _ i _ => a.length - (intOf i).toNat)
  case atStart => exact ⟨0, by omega, by simp, Keeps.refl w, rfl, rfl⟩
  case round =>
    obtain ⟨k, hk, hs, kw, rfl, rfl⟩ := hrel
    have Hs := hid hs; clear hs
    by_cases hlt : k < a.length
    · obtain ⟨b, off, u, rfl, h1, hu⟩ := (hv0.keeps kw).get k hlt
      have hd := hid (idxOf_drop pr a k hlt)
      clear hv0
      cases hp : pr a[k]
      all_goals
        have Hp := hid hp; clear hp
        go_wp2_with ((with_reducible refine (HF.out a[k] u wr (List.getElem_mem hlt) kw hu).mono ?_); rintro e w2 ⟨rfl, k2⟩; rw [Hp.out])
      · go_roundw
        case rel => exact ⟨k + 1, by omega, by rw [Hs.out, hd.out, Hp.out]; rfl, kw.trans k2, by go_num, rfl⟩
        case measure => simp [intOf]; omega
      · go_ret
        exact ⟨ret_int (by rw [Hs.out, hd.out, Hp.out]; rfl), kw.trans k2⟩
    · go_wp2
      go_ret
      exact ⟨ret_int (by rw [Hs.out, idxOf_end _ _ _ (by omega)]), kw⟩
theorem containsFuncL (pr : List Nd → Bool) (f : FuncId) (cp : Array Value) (a : List (List Nd)) (v : Value) (w : World) (hv : NdsL w v a) (hcf : Enters f)
    (hf : ∀ x u w1, x ∈ a → Keeps w w1 → Nds w1 u x → Calls Tryz.prog f (#[u] ++ cp) w1 fun e w2 => e = .returned (.bool (pr x)) ∧ Keeps w1 w2) :
    Calls Tryz.prog 148 #[v, .func (.func f) #[] cp] w fun e w' => e = .returned (.bool (a.any pr)) ∧ Keeps w w' := by
  have H := hid (indexFuncL pr f cp a v w hv hcf hf)
  clear hv hf hcf
  have he := hid (idxOf_any pr a 0)
  go_enter Tryz.func148, Tryz.ntmps148
  go_wp2_with (go_at_call 236; refine H.out.mono ?_; rintro e w2 ⟨rfl, k2⟩)
  go_ret
  exact ⟨ret_bool he.out, k2⟩
--
theorem areFormulas_1_any (x : List Nd) (u : Value) (w : World) (hu : Nds w u x) : Calls Tryz.prog 280 #[u] w fun e w' => e = .returned (.bool (!isFm x)) ∧ Keeps w w' := by
  go_enter Tryz.func280, Tryz.ntmps280
  go_wp2_with (go_at_call 281; refine (isFormula_any x _ _ hu).mono ?_; rintro e w' ⟨rfl, k1⟩)
  go_ret
  exact ⟨rfl, k1⟩
theorem enters_areFormulas_1 : Enters 280 := fun _ _ => by kernel_rfl
def allFm (l : List (List Nd)) : Bool := !(l.any fun x => !isFm x)
theorem areFormulas_any (l : List (List Nd)) (v : Value) (w : World) (hv : NdsL w v l) :
    Calls Tryz.prog 212 #[v] w fun e w' => e = .returned (.bool (allFm l)) ∧ Keeps w w' := by
  go_enter Tryz.func212, Tryz.ntmps212
  go_wp2_with (go_at_call 148; refine (containsFuncL (fun x => !isFm x) _ #[] l _ _ hv enters_areFormulas_1 (fun x u w1 _ _ hu => areFormulas_1_any x u w1 hu)).mono ?_; rintro e w1 ⟨rfl, k1⟩)
  go_ret
  exact ⟨rfl, k1⟩
end Go.Proofs.YtgnlfceloiilbaaGreat
/- Walks: the readers' first steps, and truth and variables, on both sides. -/
namespace Go.Proofs.YtgnlfceloiilbaaGreat
open Go.RowKit

theorem grown_pre0 {w w1 w2 : World} {row : Option Nat} (h : Keeps w w1) (k : w1.grownBy w2 row) : w.grownBy w2 row :=
  ⟨k.os.trans h.os, k.tape.trans h.tape, k.output.trans h.output, Nat.le_trans h.size k.size, fun i hi hr => (k.block i (Nat.lt_of_lt_of_le hi h.size) hr).trans (h.block hi)⟩
/-- a byte is taken -/
def RetHit (w : World) (r : Nat) (s : ByteArray) (i : Nat) (e : Ending) (w' : World) : Prop :=
  e = .returned (.bool true) ∧ RdAt w' r s (i + 1) false ∧ w.grownBy w' (some r)
/-- a byte is not taken -/
def RetMiss (w : World) (r : Nat) (s : ByteArray) (i : Nat) (e : Ending) (w' : World) : Prop :=
  e = .returned (.bool false) ∧ RdAt w' r s i false ∧ Keeps w w'
theorem RdAt.moved {w : World} {r : Nat} {s : ByteArray} {i : Nat} (h : RdAt w r s i false) (hi : i < s.size) : RdAt (w.setCell ⟨r, 1, none⟩ (.int .i64 ((i : Int) + 1))) r s (i + 1) false := by
  refine ⟨?_, ?_, ?_, ?_, ?_, hi, h.sz⟩
  · exact (World.cell?_setCell_other (a := ⟨r, 1, none⟩) (b := ⟨r, 0, none⟩) (h := by simp) ..).trans h.c0
  · exact World.cell?_setCell_same (h := h.c1) ..
  · exact (World.cell?_setCell_other (a := ⟨r, 1, none⟩) (b := ⟨r, 2, none⟩) (h := by simp) ..).trans h.c2
  · rw [World.frozen?_setCell]; exact h.f1
  · rw [World.frozen?_setCell]; exact h.f2
--
set_option maxRecDepth 20000 in
set_option maxHeartbeats 1000000 in
theorem l02Take_hit {w : World} {r : Nat} {s : ByteArray} {i : Nat} {b : UInt8} {l : List UInt8} {k : Int} (h : RdAt w r s i false) (hd : (bts s).drop i = b :: l) (hk : k = (b.toNat : Int)) :
    Calls Tryz.prog 356 #[.pointer (some ⟨r, 0, none⟩), .int .u8 k] w (RetHit w r s i) := by
  subst hk
  obtain ⟨hi, hb, _⟩ := bts_head hd
  have hm := fun n => (h.keeps ((Keeps.refl w).drewN n)).moved hi
  obtain ⟨c0, c1, c2, f1, f2, le, sz⟩ := h
  have hlt : decide ((i : Int) < s.size) = true := by simp; omega
  have hge : decide ((i : Int) ≥ s.size) = false := by simp; omega
  have hbb : s[i].toNat = b.toNat := by rw [hb]
  clear hd
  go_enter Tryz.func356, Tryz.ntmps356
  go_wp2_with fail
  go_quiet (fail)
  go_wp2_with fail
  go_ret
  exact ⟨rfl, hm _, grown_pre0 ((Keeps.refl w).drewN _) (grown_set _ _ _)⟩
set_option maxRecDepth 20000 in
set_option maxHeartbeats 1000000 in
theorem l02Take_miss {w : World} {r : Nat} {s : ByteArray} {i : Nat} {l : List UInt8} {k : Int} (b : UInt8) (h : RdAt w r s i false) (hd : (bts s).drop i = l) (hne : l.head? ≠ some b) (hk : k = (b.toNat : Int)) :
    Calls Tryz.prog 356 #[.pointer (some ⟨r, 0, none⟩), .int .u8 k] w (RetMiss w r s i) := by
  subst hk
  have hm := fun n => h.keeps ((Keeps.refl w).drewN n)
  cases l with
  | nil =>
    have hi := bts_end h.le hd
    obtain ⟨c0, c1, c2, f1, f2, le, sz⟩ := h
    have hlt : decide ((i : Int) < s.size) = false := by simp; omega
    have hge : decide ((i : Int) ≥ s.size) = true := by simp; omega
    clear hd hne
    go_enter Tryz.func356, Tryz.ntmps356
    go_wp2_with fail
    go_quiet (fail)
    go_wp2_with fail
    go_ret
    exact ⟨rfl, hm _, (Keeps.refl w).drewN _⟩
  | cons c l =>
    obtain ⟨hi, hb, _⟩ := bts_head hd
    obtain ⟨c0, c1, c2, f1, f2, le, sz⟩ := h
    have hlt : decide ((i : Int) < s.size) = true := by simp; omega
    have hge : decide ((i : Int) ≥ s.size) = false := by simp; omega
    have hb1 : ((c.toNat : Int) == (b.toNat : Int)) = false := by simp only [beq_eq_false_iff_ne, ne_eq]; intro e; apply hne; simp [UInt8.toNat_inj.1 (Int.ofNat_inj.1 e)]
    have hb2 : ((c.toNat : Int) != (b.toNat : Int)) = true := by simp [bne, hb1]
    clear hd hne
    go_enter Tryz.func356, Tryz.ntmps356
    go_wp2_with fail
    go_quiet (fail)
    go_wp2_with fail
    go_ret
    exact ⟨rfl, hm _, (Keeps.refl w).drewN _⟩
--
set_option maxRecDepth 20000 in
set_option maxHeartbeats 1000000 in
theorem take_hit {w : World} {r : Nat} {s : ByteArray} {i : Nat} {b : UInt8} {l : List UInt8} {k : Int} (h : RdAt w r s i false) (hd : (bts s).drop i = b :: l) (hk : k = (b.toNat : Int)) :
    Calls Tryz.prog 342 #[.pointer (some ⟨r, 0, none⟩), .int .u8 k] w (RetHit w r s i) := by
  subst hk
  obtain ⟨hi, hb, _⟩ := bts_head hd
  have hm := fun n => (h.keeps ((Keeps.refl w).drewN n)).moved hi
  obtain ⟨c0, c1, c2, f1, f2, le, sz⟩ := h
  have hlt : decide ((i : Int) < s.size) = true := by simp; omega
  have hge : decide ((i : Int) ≥ s.size) = false := by simp; omega
  have hbb : s[i].toNat = b.toNat := by rw [hb]
  clear hd
  go_enter Tryz.func342, Tryz.ntmps342
  go_wp2_with fail
  go_quiet (fail)
  go_wp2_with fail
  go_ret
  exact ⟨rfl, hm _, grown_pre0 ((Keeps.refl w).drewN _) (grown_set _ _ _)⟩
set_option maxRecDepth 20000 in
set_option maxHeartbeats 1000000 in
theorem take_miss {w : World} {r : Nat} {s : ByteArray} {i : Nat} {l : List UInt8} {k : Int} (b : UInt8) (h : RdAt w r s i false) (hd : (bts s).drop i = l) (hne : l.head? ≠ some b) (hk : k = (b.toNat : Int)) :
    Calls Tryz.prog 342 #[.pointer (some ⟨r, 0, none⟩), .int .u8 k] w (RetMiss w r s i) := by
  subst hk
  have hm := fun n => h.keeps ((Keeps.refl w).drewN n)
  cases l with
  | nil =>
    have hi := bts_end h.le hd
    obtain ⟨c0, c1, c2, f1, f2, le, sz⟩ := h
    have hlt : decide ((i : Int) < s.size) = false := by simp; omega
    have hge : decide ((i : Int) ≥ s.size) = true := by simp; omega
    clear hd hne
    go_enter Tryz.func342, Tryz.ntmps342
    go_wp2_with fail
    go_quiet (fail)
    go_wp2_with fail
    go_ret
    exact ⟨rfl, hm _, (Keeps.refl w).drewN _⟩
  | cons c l =>
    obtain ⟨hi, hb, _⟩ := bts_head hd
    obtain ⟨c0, c1, c2, f1, f2, le, sz⟩ := h
    have hlt : decide ((i : Int) < s.size) = true := by simp; omega
    have hge : decide ((i : Int) ≥ s.size) = false := by simp; omega
    have hb1 : ((c.toNat : Int) == (b.toNat : Int)) = false := by simp only [beq_eq_false_iff_ne, ne_eq]; intro e; apply hne; simp [UInt8.toNat_inj.1 (Int.ofNat_inj.1 e)]
    have hb2 : ((c.toNat : Int) != (b.toNat : Int)) = true := by simp [bne, hb1]
    clear hd hne
    go_enter Tryz.func342, Tryz.ntmps342
    go_wp2_with fail
    go_quiet (fail)
    go_wp2_with fail
    go_ret
    exact ⟨rfl, hm _, (Keeps.refl w).drewN _⟩
end Go.Proofs.YtgnlfceloiilbaaGreat
/- Walks: formulas with one part on both sides. -/
namespace Go.Proofs.YtgnlfceloiilbaaGreat
open Go.RowKit
--
set_option maxHeartbeats 400000 in
theorem l02Pre_any (k : Int) (a : List Nd) (va : Value) (w : World) (hva : Nds w va a) (hl : 1 + a.length ≤ 2147483648) :
    Calls Tryz.prog 247 #[.int .i64 k, va] w (RetN w (⟨k, 0⟩ :: a)) := by
  go_enter Tryz.func247, Tryz.ntmps247
  have h1 := OwnN.lit1 w ⟨k, 0⟩
  have k1 := (Keeps.refl w).alloc (.cells #[.int .i64 k, .int .i64 0] 145)
  have ha1 := hva.keeps k1
  go_wp2_with (at_builtin; refine appN rfl _ _ rfl w.heap.size _ [⟨k, 0⟩] rfl h1 _ a rfl ha1 (by simp) (by simp; omega) ?_; intro v1 w1 hv1 hg1 hr1; have k2 : Keeps w w1 := k1.grown hg1 hr1)
  go_ret
  exact ⟨_, rfl, by simpa using hv1, k2⟩
--
set_option maxRecDepth 20000 in
set_option maxHeartbeats 400000 in
theorem prefix_any (k : Int) (a : List Nd) (va : Value) (w : World) (hva : Nds w va a) (hl : 1 + a.length ≤ 2147483648) :
    Calls Tryz.prog 370 #[.int .i64 k, va] w (RetN w (⟨k, 0⟩ :: a)) := by
  obtain ⟨pa, na, ca, rfl⟩ := hva.shape
  have k1 := (Keeps.refl w).alloc (.cells #[.int .i64 k, .int .i64 0] 145)
  have h1 := (OwnN.lit1 w ⟨k, 0⟩).nds (by simp)
  have h2 := NdsL.lit2N (N := w.heap.size + 1) (by simp) h1 (hva.keeps k1)
  have k2 := k1.alloc (.cells #[.slice (some ⟨w.heap.size, 0, none⟩) 1 1, .slice pa na ca] 73)
  have hfl : fl [[⟨k, 0⟩], a] [[⟨k, 0⟩], a].length = ⟨k, 0⟩ :: a := by simp [fl]
  have hfl2 : (fl [[⟨k, 0⟩], a] [[(⟨k, 0⟩ : Nd)], a].length).length ≤ 2147483648 := by rw [hfl]; simp; omega
  have hc := concatN_any _ _ _ h2 hfl2
  rw [hfl] at hc
  have HC := hid hc
  clear hfl2 h1 h2 hfl hc
  go_enter Tryz.func370, Tryz.ntmps370
  go_wp2_with (go_at_call 204; go_must (refine HC.out.mono ?_); rintro e w3 ⟨v3, rfl, hv3, k3⟩)
  go_ret
  exact ⟨_, rfl, hv3.mono k2.size, k2.trans k3⟩
end Go.Proofs.YtgnlfceloiilbaaGreat
