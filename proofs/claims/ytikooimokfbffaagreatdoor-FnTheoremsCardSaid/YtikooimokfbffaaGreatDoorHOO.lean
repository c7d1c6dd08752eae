import Derived.Test.YtikooimokfbffaaGreatDoorHOR
import Derived.Test.YtikooimokfbffaaGreatDoorHOM
import Derived.Test.YtikooimokfbffaaGreatDoorHOP
/- The reference: comparisons of lists, the least relation. -/
namespace Go.Proofs.YtikooimokfbffaaGreatDoor
open Go.RowKit
end Go.Proofs.YtikooimokfbffaaGreatDoor
namespace Go.Proofs.YtikooimokfbffaaGreatDoor
open Go.RowKit
theorem run_makeI0 (w : World) (n : Nat) (hn : n ≤ 2147483648) : ∃ w', (Instr.makeSlice 32 (.int .i64 0) (.int .i64 (n : Int))).run Tryz.prog w = .ok (.slice (some ⟨w.heap.size, 0, none⟩) 0 n) w' ∧
   OwnI w' w.heap.size (.slice (some ⟨w.heap.size, 0, none⟩) 0 n) [] ∧ Keeps w w' := by
 obtain ⟨i0, hi, hz0, hz1, hz2⟩ := info_parts infoI
 obtain ⟨w', hr, ho, hg⟩ := run_make_own (P := Tryz.prog) w w.heap.size 32 2 i0 _ 1 Tryz.underlying32 hi hz0 hz1 .i64 .i64 n (by rw [hz2]; omega) (by unfold maxLen; omega) (Nat.le_refl _)
 exact ⟨w', hr, ho, (Keeps.refl w).grown hg (by simp)⟩
set_option maxRecDepth 20000 in
set_option maxHeartbeats 4000000 in
theorem permutations_any (w0 w : World) (ga gb n : Nat) (va vb : Value) (a best : List Nat) (kp : Keeps w0 w) (ca : w.cell? ⟨ga, 0, none⟩ = some va) (cb : w.cell? ⟨gb, 0, none⟩ = some vb) (fb : w.frozen? ⟨gb, 0, none⟩ = false)
  (hb : OwnI w w0.heap.size vb (zs best)) (hoff : ∀ k, vb.ownBlock = some k → k ≠ ga ∧ k ≠ gb) (hab' : gb ≠ ga) (hgb : w0.heap.size ≤ gb)
  (hva : Ints w0 va (zs a)) (hn : n ≤ 4) (hal : a.length = n) (hab : Bnd n a) (hbl : best.length = n) (hbb : Bnd n best) :
  Calls Tryz.prog 138 #[.int .i64 n, .func (.func 139) #[] #[.pointer (some ⟨ga, 0, none⟩), .pointer (some ⟨gb, 0, none⟩)]] w fun e w' => e = .returned (.tuple #[]) ∧
   ∃ vb', w'.cell? ⟨gb, 0, none⟩ = some vb' ∧ OwnI w' w0.heap.size vb' (zs ((permP n).foldl (betP a) best)) ∧ Keeps w0 w' := by
 have hcf1 : ∀ args w, (callFunc 215 args).run Tryz.prog w = .ok (.enter 215 args) w := enters_perm1
 have sa := World.block_lt_of_cell? _ _ ca
 have sb := World.block_lt_of_cell? _ _ cb
 have s0 := kp.size
 have k1 := ((Keeps.refl w).alloc (.cells #[.int .i64 (n : Int)] 2)).alloc (.cells #[.func (.func 139) #[] #[.pointer (some ⟨ga, 0, none⟩), .pointer (some ⟨gb, 0, none⟩)]] 137)
 obtain ⟨wm, hmk, hown, km⟩ := run_makeI0 ((w.alloc (.cells #[.int .i64 (n : Int)] 2)).alloc (.cells #[.func (.func 139) #[] #[.pointer (some ⟨ga, 0, none⟩), .pointer (some ⟨gb, 0, none⟩)]] 137)) n (by omega)
 have hsz : ((w.alloc (.cells #[.int .i64 (n : Int)] 2)).alloc (.cells #[.func (.func 139) #[] #[.pointer (some ⟨ga, 0, none⟩), .pointer (some ⟨gb, 0, none⟩)]] 137)).heap.size = w.heap.size + 2 := by simp
 have cn : ((w.alloc (.cells #[.int .i64 (n : Int)] 2)).alloc (.cells #[.func (.func 139) #[] #[.pointer (some ⟨ga, 0, none⟩), .pointer (some ⟨gb, 0, none⟩)]] 137)).cell? ⟨w.heap.size, 0, none⟩ = some (.int .i64 n) := by simp
 have cf : ((w.alloc (.cells #[.int .i64 (n : Int)] 2)).alloc (.cells #[.func (.func 139) #[] #[.pointer (some ⟨ga, 0, none⟩), .pointer (some ⟨gb, 0, none⟩)]] 137)).cell? ⟨w.heap.size + 1, 0, none⟩ = some (.func (.func 139) #[] #[.pointer (some ⟨ga, 0, none⟩), .pointer (some ⟨gb, 0, none⟩)]) := by simp
 rw [hsz] at hmk hown
 have hst : ∀ (a : Addr) (f : Fn) (b c : Array Value) (m : Mode) (w' : World), (store a (.func f b c) m).run Tryz.prog w' = stored Tryz.prog w' a (.func f b c) m := fun a f b c m w' => run_store _ w' a _ m rfl
 have hszm := km.size
 rw [hsz] at hszm
 have KM := hid (k1.trans km)
 have CN := hid (km.cell cn)
 have CF := hid (km.cell cf)
 have HOWN := hid hown
 clear cn cf hown km k1
 have hcg : ∀ W : World, ((W.alloc (.cells #[.slice (some ⟨w.heap.size + 2, 0, none⟩) 0 n] 32)).alloc (.cells #[.nilFunc] 181)).cell? ⟨W.heap.size + 1, 0, none⟩ = some .nilFunc := fun W => by simp
 go_enter Tryz.func138, Tryz.ntmps138
 go_wp2_with fail
 have kA := ((Keeps.refl wm).alloc (.cells #[.slice (some ⟨w.heap.size + 2, 0, none⟩) 0 n] 32)).alloc (.cells #[.func (.func 215) #[] #[.pointer (some ⟨wm.heap.size, 0, none⟩), .pointer (some ⟨w.heap.size, 0, none⟩), .pointer (some ⟨w.heap.size + 1, 0, none⟩), .pointer (some ⟨wm.heap.size + 1, 0, none⟩)]] 181)
 have kB := KM.out.trans kA
 have hN : PNe (w.heap.size + 2) wm.heap.size w.heap.size (w.heap.size + 1) (wm.heap.size + 1) ga gb := by
  have hg : w.heap.size + 2 < wm.heap.size := (HOWN.out.len _ rfl).2
  constructor <;> omega
 have hP : PSt w0 ((wm.alloc (.cells #[.slice (some ⟨w.heap.size + 2, 0, none⟩) 0 n] 32)).alloc (.cells #[.func (.func 215) #[] #[.pointer (some ⟨wm.heap.size, 0, none⟩), .pointer (some ⟨w.heap.size, 0, none⟩), .pointer (some ⟨w.heap.size + 1, 0, none⟩), .pointer (some ⟨wm.heap.size + 1, 0, none⟩)]] 181))
   (w.heap.size + 2) wm.heap.size w.heap.size (w.heap.size + 1) (wm.heap.size + 1) ga gb n va [] best vb := by
  refine ⟨kp.trans kB, by simp, by simp, kA.cell CN.out, kA.cell CF.out, by simp, kB.cell ca, kB.cell cb, by rw [kB.both.2 gb 0 sb]; exact fb, ?_, hb.keeps kB, ?_⟩
  ·exact (HOWN.out.keeps kA).mono (by omega)
  ·intro k hk
   have h1 := hoff k hk
   have h2 := (hb.len k hk).2
   have hg : w.heap.size + 2 < wm.heap.size := (HOWN.out.len _ rfl).2
   unfold PBox
   omega
 have hg := grow_any w0 (w.heap.size + 2) wm.heap.size w.heap.size (w.heap.size + 1) (wm.heap.size + 1) ga gb n va a hN (by omega) (by omega) hgb hva hn hal hab n [] best _ vb hP (by simp) (by simp) (fun x hx => hx) hbl hbb
 refine Calls.mono hg ?_
 rintro e w5 ⟨rfl, vb5, h5⟩
 go_wp2_with fail
 go_end0
 exact ⟨rfl, vb5, h5.cb, h5.bst, h5.kp⟩
set_option maxRecDepth 20000 in
theorem leastRelation_any (a : List Nat) (va : Value) (w : World) (hva : Ints w va (zs a)) (hn : a.length ≤ 4) (hab : Bnd a.length a) :
  Calls Tryz.prog 61 #[va] w (RetI w (zs (leastP a))) := by
 have kA := (Keeps.refl w).alloc (.cells #[va] 32)
 have cA : (w.alloc (.cells #[va] 32)).cell? ⟨w.heap.size, 0, none⟩ = some va := by simp
 have HC := hid (cloneI_any (zs a) va _ (hva.keeps kA))
 have HS := hid (fun w2 (k : Keeps w w2) => sizeI_any (zs a) va w2 (hva.keeps k))
 rw [zs_length] at HS
 have HL := hid (leastP_fold a)
 have HVA := hid hva
 obtain ⟨p, cap, rfl, _⟩ := hva
 have HP := hid (fun w2 gb vb => permutations_any w w2 w.heap.size gb a.length (.slice p (zs a).length cap) vb a a)
 generalize hn2 : a.length = n at *
 have HN := hid hn2; clear hn2
 go_enter Tryz.func61, Tryz.ntmps61
 go_wp2_with fail
 refine HC.out.mono ?_; rintro e w2 ⟨v2, rfl, hv2, k2⟩
 have cA2 := k2.cell cA
 have kB := (kA.trans k2).alloc (.cells #[v2] 32)
 have hs2 := (kA.trans k2).size
 have hoff : ∀ k, v2.ownBlock = some k → k ≠ w.heap.size ∧ k ≠ w2.heap.size := fun k hk => by
  have := hv2.len k hk
  simp at this
  omega
 have hsz := k2.size
 have hne : w2.heap.size ≠ w.heap.size := by simp at hsz; omega
 have HP2 := hid (HP.out (w2.alloc (.cells #[v2] 32)) w2.heap.size v2 kB ((Keeps.refl w2).alloc _ |>.cell cA2) (by simp) (by simp) ((hv2.mono (by simp)).keeps ((Keeps.refl w2).alloc _)) hoff hne (by omega) HVA.out hn trivial hab trivial hab)
 have cA3 := ((Keeps.refl w2).alloc (.cells #[v2] 32)).cell cA2
 have HL2 : Hid (leastP a = (permP n).foldl (betP a) a) := hid (by rw [HL.out])
 obtain ⟨p2, c2, rfl, -, -, -⟩ := At.of_own hv2
 clear hne hoff hab hn hsz hs2 HP hv2 HC
 go_wp2_with fail
 refine (HS.out _ kB).mono ?_; rintro e w3 ⟨rfl, rfl⟩
 go_wp2_with fail
 refine HP2.out.mono ?_; rintro e w4 ⟨rfl, vb, cb4, hb4, k4⟩
 obtain ⟨p4, c4, rfl, -, -, -⟩ := At.of_own hb4
 go_wp2_with fail
 go_ret
 exact ⟨_, rfl, by rw [HL2.out]; exact hb4, k4⟩
end Go.Proofs.YtikooimokfbffaaGreatDoor
namespace Go.Proofs.YtikooimokfbffaaGreatDoor
open Go.RowKit
theorem isPos_nat {b : List Nat} (h8 : b.length ≤ 8) (hb : Bnd b.length b) : isPos b.length (zs b) = posB b := by
 unfold isPos
 rw [zs_length, zs_toNat, isM_all (bnd_mem hb), show inR (b.length : Int) 0 8 = true from by simp [inR]; omega]
 simp
theorem smallK_len : ∀ k, k ≤ 4 → (smallK k).length ≤ 24 := by
 have h : ((smallK 4)).length = 24 := small_len
 have e : (smallK 4).length = (smallK 3).length + (allR 4).length := by rw [smallK, List.length_append]
 have e3 : (smallK 3).length = (smallK 2).length + (allR 3).length := by rw [smallK, List.length_append]
 have e2 : (smallK 2).length = (smallK 1).length + (allR 2).length := by simp [smallK]
 have e1 : (smallK 1).length = (smallK 0).length + (allR 1).length := by simp [smallK]
 intro k hk
 have : k = 0 ∨ k = 1 ∨ k = 2 ∨ k = 3 ∨ k = 4 := by omega
 rcases this with rfl | rfl | rfl | rfl | rfl <;> omega
theorem allR_len {n : Nat} (h1 : 1 ≤ n) (h4 : n ≤ 4) : (allR n).length ≤ 24 := by
 have := smallK_len n h4
 obtain ⟨m, rfl⟩ : ∃ m, n = m + 1 := ⟨n - 1, by omega⟩
 rw [smallK, List.length_append] at this
 omega
set_option maxRecDepth 100000 in
theorem allR_ne {n : Nat} (h1 : 1 ≤ n) (h4 : n ≤ 4) : allR n ≠ [] := by
 have : n = 1 ∨ n = 2 ∨ n = 3 ∨ n = 4 := by omega
 rcases this with rfl | rfl | rfl | rfl
 ·rw [show allR 1 = [[1]] by decide +kernel]; simp
 ·rw [show allR 2 = [[1, 2], [1, 3]] by decide +kernel]; simp
 ·rw [show allR 3 = [[1, 2, 4], [1, 2, 5], [1, 2, 7], [1, 3, 5], [1, 3, 7]] by decide +kernel]; simp
 ·rw [posets_r4]; simp [pos4]
theorem codes_ne {n : Nat} (h1 : 1 ≤ n) (h4 : n ≤ 4) : codP n 0 (2 ^ (n * n)) ≠ [] := fun e => by
 have := posets_eq n h4 h1
 rw [e] at this
 exact allR_ne h1 h4 this.symm
theorem OwnLI.off {w w' : World} {B B' : Nat} {v u : Value} {xs : List (List Nat)} {T : TypeId} {s n : Nat} {hs : List Value} (h : OwnLI w B v xs) (ho : w.ownsRow B' T s u n hs) (h1 : T ≠ 32) (h2 : T ≠ 2) (hg : w.grownBy w' u.ownBlock) : OwnLI w' B v xs := by
 obtain ⟨vs, hv, hr⟩ := h
 exact ⟨vs, own_touch hv (Touch.grown hg) (fun i hi e => type_ne ho hv h1 e.symm hi), hr.touch (Touch.grown hg) (fun i hb e => hr.off ho h2 e.symm hb)⟩
set_option maxRecDepth 20000 in
set_option maxHeartbeats 4000000 in
theorem posetsOf_any (n : Nat) (h1 : 1 ≤ n) (h4 : n ≤ 4) (w : World) : Calls Tryz.prog 148 #[.int .i64 n] w (RetPs w (allR n)) := by
 have HEQ := hid (posets_eq n h4 h1)
 have HNE := hid (codes_ne h1 h4)
 have HSU := hid (codP_succ n)
 have HLEN := hid (codP_len n)
 have HMEM := hid (fun k x (h : x ∈ codP n 0 k) => (codP_mem (n := n) (k := k) h4 h).1)
 have hpw : 2 ^ (n * n) ≤ 65536 := by
  have : n * n ≤ 16 := Nat.mul_le_mul h4 h4
  exact Nat.pow_le_pow_right (by omega) this
 have hnn : n * n ≤ 16 := Nat.mul_le_mul h4 h4
 have HREP := hid (repK_succ n)
 have HIS := hid (fun k (v : Value) (w2 : World) (hv : Ints w2 v (zs (repP n k))) => isPoset_any (repP n k).length (zs (repP n k)) v w2 hv)
 have HRL := hid (repP_len n)
 have HPO : Hid (∀ k, isPos (repP n k).length (zs (repP n k)) = posB (repP n k)) := hid fun k => isPos_nat (by rw [repP_len]; omega) (by rw [repP_len]; exact repP_bnd n k)
 have HLR := hid (fun k (v : Value) (w2 : World) (hv : Ints w2 v (zs (repP n k))) => leastRelation_any (repP n k) v w2 hv (by rw [repP_len]; exact h4) (by rw [repP_len]; exact repP_bnd n k))
 have hw : wrap64 ((2 : Int) ^ (n * n)) = ((2 ^ (n * n) : Nat) : Int) := by rw [wrap_pow _ (by omega)]; push_cast; rfl
 have e2 := (pow63 n (by omega)).1
 have e3 := (pow63 n (by omega)).2
 have h16 : 2 ^ n ≤ 16 := Nat.pow_le_pow_right (n := 2) (by omega) h4
 have hpos : 0 < 2 ^ n := Nat.two_pow_pos n
 have HBT : Hid (∀ k x : Nat, k < 65536 → bits BinOp.and IntKind.i64 ((k : Int) / 2 ^ (x * n)) ((2 : Int) ^ n - 1) = ((k >>> (x * n) &&& (2 ^ n - 1) : Nat) : Int)) := hid fun k x hk => by
  have a1 : (k : Int) / 2 ^ (x * n) = ((k / 2 ^ (x * n) : Nat) : Int) := by push_cast; rfl
  have a2 : (2 : Int) ^ n - 1 = ((2 ^ n - 1 : Nat) : Int) := by rw [Int.ofNat_sub (by omega)]; push_cast; rfl
  have a3 : k / 2 ^ (x * n) ≤ k := Nat.div_le_self _ _
  rw [a1, a2, andN _ _ (by omega) (by omega), Nat.shiftRight_eq_div_pow]
 have HXN : Hid (∀ x : Nat, x < n → x * n ≤ 16) := hid fun x hx => Nat.le_trans (Nat.mul_le_mul (Nat.le_of_lt hx) (Nat.le_refl n)) hnn
 clear h16 hpos
 have HPW := hid hpw; clear hpw
 generalize hN2 : 2 ^ (n * n) = N2 at *
 have HN2 := hid hN2; clear hN2
 go_enter Tryz.func148, Tryz.ntmps148
 go_wp2_with fail
 go_loopw [3, 14] (fun s3 s14 wr => ∃ k : Nat, k ≤ N2 ∧ s14 = .int .i64 k ∧ OwnLI wr w.heap.size s3 (codP n 0 k) ∧ Keeps w wr) (fun _ s14 _ => N2 - (intOf s14).toNat)
 case atStart => exact ⟨0, by omega, rfl, by simpa [codP] using OwnLI.nil w w.heap.size, Keeps.refl w⟩
 case round =>
  obtain ⟨k, hk, rfl, hown, kw⟩ := hrel
  by_cases hlt : k < N2
  ·have hlt' : (k : Int) < N2 := by omega
   have hk65 : k < 65536 := by have := HPW.out; omega
   obtain ⟨p3, q3, rfl, _, _⟩ := hown.shape
   have HOWN := hid hown; clear hown
   have HKW := hid kw; clear kw
   go_wp2_with fail
   clear hw
   generalize hwo : wr = wo at *
   clear hwo
   go_loopw [5, 18] (fun s5 s18 wx => ∃ x : Nat, x ≤ n ∧ s18 = .int .i64 x ∧ OwnI wx wo.heap.size s5 (zs (repK n k x)) ∧ Keeps wo wx) (fun _ s18 _ => n - (intOf s18).toNat)
   case atStart => exact ⟨0, by omega, rfl, by simpa [repK, zs] using OwnI.nil wo wo.heap.size, Keeps.refl wo⟩
   case round =>
    obtain ⟨x, hx, rfl, hown, kw⟩ := hrel
    by_cases hxn : x < n
    ·have hxn' : (x : Int) < n := by omega
     have hbt := HBT.out k x hk65
     have hrs := HREP.out k x
     have hrl := repK_len n k x
     have hxx := HXN.out x hxn
     have hwm : IntKind.i64.wrap ((x : Int) * (n : Int)) = ((x * n : Nat) : Int) := by
      rw [show (x : Int) * (n : Int) = ((x * n : Nat) : Int) by push_cast; rfl]
      exact wrapN _ (by omega)
     generalize x * n = M at *
     have hsz := kw.size
     have hzl : (zs (repK n k x)).length = x := by rw [zs_length, hrl]
     have HRS := hid hrs; clear hrs
     have HBTX := hid hbt; clear hbt
     go_wp2_with fail
     go_region_law (refine stepI rfl (.tmp 21) (.tmp 31) rfl wo.heap.size _ (zs (repK n k x)) rfl (by exact hown.keeps (by first | exact ((Keeps.refl wr).drew).alloc _ | exact ((Keeps.refl wr).alloc _).drew)) _ [_] rfl (by first | exact Ints.lit1 _ _ | exact (Ints.lit1 _ _).keeps ((Keeps.refl _).drew)) (by simp; omega) (by rw [hzl]; simp; omega) ?_; intro v1 w1 hv1 hg1 hr1)
     have k2 : Keeps wo w1 := by
      refine Keeps.grown ?_ hg1 (by simpa using hr1)
      first | exact (kw.drew.alloc _) | exact (kw.alloc _).drew
     clear hg1 hr1 hwm
     go_wp2
     go_roundw
     case rel => exact ⟨x + 1, by omega, by go_num, by rw [HRS.out, zs_snoc, ← HBTX.out]; exact hv1, k2⟩
     case measure => simp [intOf]; omega
    ·have e : x = n := by omega
     subst e
     have hxn' : ¬ (x : Int) < x := by omega
     have hro : Hid (repK x k x = repP x k) := hid rfl
     rw [hro.out] at hown
     have hrl := HRL.out k
     have hin := hown.ints (by rw [zs_length, hrl]; omega)
     have HO5 := hid hown; clear hown
     have HIN := hid hin
     have hpos := posetOf_any (zs (repP x k)) _ wr hin
     have HPS := hid hpos; clear hpos
     have HIS2 := hid (fun w2 (kk : Keeps wr w2) => HIS.out k _ w2 (HIN.out.keeps kk))
     have HLR2 := hid (fun w2 (kk : Keeps wr w2) => HLR.out k _ w2 (HIN.out.keeps kk))
     have HSUK := hid (HSU.out k)
     rw [HPO.out k] at HIS2
     rw [hrl] at HIS2
     have hzl : (zs (repP x k)).length = x := by rw [zs_length, hrl]
     rw [hzl] at HPS
     obtain ⟨p5, q5, rfl, _⟩ := hin
     rw [hzl] at *
     have KWO := hid (HKW.out.trans kw)
     clear hzl hro hrl
     cases hb : posB (repP x k)
     ·rw [hb] at HIS2
      have HC2 : Hid (codP x 0 (k + 1) = codP x 0 k) := hid (by rw [HSUK.out, hb]; simp)
      clear hb HSUK
      go_wp2_with fail
      refine HPS.out.mono ?_; rintro e w2 ⟨rfl, k2⟩
      go_wp2_with fail
      refine (HIS2.out _ k2).mono ?_; rintro e w3 ⟨rfl, k3⟩
      go_wp2_with fail
      go_roundw
      case rel => exact ⟨k + 1, by omega, by go_num, by rw [HC2.out]; exact (HOWN.out.keeps kw).keeps (k2.trans k3), KWO.out.trans (k2.trans k3)⟩
      case measure => simp [intOf]; omega
     ·rw [hb] at HIS2
      have HC2 : Hid (codP x 0 (k + 1) = codP x 0 k ++ [leastP (repP x k)]) := hid (by rw [HSUK.out, hb]; simp)
      have hcl := HLEN.out k
      clear hb HSUK
      generalize leastP (repP x k) = lp at *
      have HOW2 := hid (HOWN.out.keeps kw)
      generalize codP x 0 k = ck at *
      go_wp2_with fail
      refine HPS.out.mono ?_; rintro e w2 ⟨rfl, k2⟩
      go_wp2_with fail
      refine (HIS2.out _ k2).mono ?_; rintro e w3 ⟨rfl, k3⟩
      go_wp2_with fail
      refine (HLR2.out _ (k2.trans k3)).mono ?_; rintro e w4 ⟨v4, rfl, hv4, k4⟩
      obtain ⟨p4, q4, e4, -, -, -⟩ := At.of_own hv4
      rw [zs_length] at e4
      subst e4
      have k5 := (k2.trans k3).trans k4
      have k6 := k5.alloc (.cells #[.slice p4 lp.length q4] 32)
      have hv5 := (hv4.mono (B' := w.heap.size) (by have := (KWO.out.trans (k2.trans k3)).size; omega)).keeps ((Keeps.refl w4).alloc (.cells #[.slice p4 lp.length q4] 32))
      have hsz5 := (KWO.out.trans k6).size
      have KW6 := hid (KWO.out.trans k6)
      go_wp2_with (at_builtin; refine appLI rfl _ _ rfl w.heap.size _ ck rfl wr HOW2.out k6 _ lp hv5 hsz5 _ 1 rfl (At.lit1 _ _ _) (by omega) ?_; intro v6 w6 hv6 hg6 hr6)
      go_roundw
      case rel => exact ⟨k + 1, by omega, by go_num, by rw [HC2.out]; exact hv6, KW6.out.grown hg6 hr6⟩
      case measure => simp [intOf]; omega
  ·have e : N2 = k := by omega
   subst e
   have hlt' : ¬ (N2 : Int) < N2 := by omega
   have HSO := hid (sortedLists_any w wr _ (codP n 0 N2) kw hown (fun x hx => by have := HMEM.out N2 x hx; omega) (by have := HLEN.out N2; have := HPW.out; omega) HNE.out)
   have hse : sortU (codP n 0 N2) = allR n := HEQ.out
   have HSL : Hid (∀ x ∈ allR n, x.length ≤ 4) := hid fun x hx => by
    rw [← hse] at hx
    have := HMEM.out N2 x (sortU_mem.1 hx)
    omega
   rw [hse] at HSO
   have har := allR_len h1 h4
   obtain ⟨p3, q3, rfl, _, _⟩ := hown.shape
   clear hown hse HEQ HNE HSU HLEN HMEM HREP HIS HRL HPO HLR HBT HXN e2 e3
   generalize allR n = S at *
   go_wp2_with fail
   refine HSO.out.mono ?_; rintro e w2 ⟨v2, rfl, hv2, k2⟩
   obtain ⟨p2, q2, rfl, hle2, hmx2⟩ := hv2.shape
   unfold maxLen at hmx2
   have HV2 := hid hv2; clear hv2
   have HK2 := hid k2; clear k2 HSO
   go_wp2_with fail
   go_loopw [7, 46] (fun s7 s46 wx => ∃ i : Nat, i ≤ S.length ∧ s46 = .int .i64 i ∧ OwnPs wx w.heap.size s7 (S.take i) ∧ OwnLI wx w.heap.size (.slice p2 S.length q2) S ∧ Keeps w wx) (fun _ s46 _ => S.length - (intOf s46).toNat)
   case atStart => exact ⟨0, by omega, rfl, by simpa using OwnPs.nil w2 w.heap.size, HV2.out, HK2.out⟩
   case round =>
    obtain ⟨i, hi, rfl, hps, hli, kx⟩ := hrel
    clear HV2 HK2
    by_cases hlt : i < S.length
    ·have hlt' : (i : Int) < S.length := by omega
     obtain ⟨b1, o1, u, rfl, hcu, hou⟩ := hli.get i hlt
     obtain ⟨pu, qu, e, -, -, -⟩ := At.of_own hou
     rw [zs_length] at e
     subst e
     obtain ⟨us7, ho7, hr7⟩ := id hps
     have htl : (S.take i).length = i := by rw [List.length_take]; omega
     obtain ⟨p7, q7, e7, _, _⟩ := hps.shape
     rw [htl] at e7
     subst e7
     have hlen : S[i].length ≤ 2147483648 := by have := HSL.out _ (List.getElem_mem hlt); omega
     have HPS := hid (posetOf_any (zs S[i]) _ wr (hou.ints (by rw [zs_length]; exact hlen)))
     rw [zs_length] at HPS
     have HTK : Hid (S.take (i + 1) = S.take i ++ [S[i]]) := hid (List.take_succ_eq_append_getElem hlt)
     have hlen2 : ∀ x : List Nat, (S.take i).length + [x].length ≤ 2147483647 := fun x => by rw [htl]; simp; omega
     clear htl
     have HPS0 := hid hps; clear hps
     have HLI := hid hli; clear hli
     have HOU := hid hou; clear hou
     generalize S[i] = x at *
     go_wp2_with fail
     refine HPS.out.mono ?_; rintro e w3 ⟨rfl, k3⟩
     have k4 := k3.alloc (.cells #[.int .i64 (x.length : Nat), .slice pu x.length qu] 34)
     have hsz := (kx.trans k4).size
     have KX := hid (kx.trans k4)
     go_wp2_with (at_builtin; refine appPs rfl _ _ rfl w.heap.size _ (S.take i) rfl wr HPS0.out k4 [.slice pu x.length qu] [x] (RowsI.one (HOU.out.keeps k4)) hsz _ 1 rfl At.ps1 (hlen2 x) ?_; intro v6 w6 hv6 hg6 hr6)
     go_roundw
     case rel => exact ⟨i + 1, by omega, by go_num, by rw [HTK.out]; exact hv6, (HLI.out.keeps k4).off (own_keeps ho7 k4) (by decide) tynePs hg6, KX.out.grown hg6 hr6⟩
     case measure => simp [intOf]; omega
    ·have e : S.length = i := by omega
     have hlt' : ¬ (i : Int) < S.length := by omega
     rw [← e, List.take_length] at hps
     go_wp2_with fail
     go_ret
     exact ⟨_, rfl, hps, kx⟩
theorem OwnPs.parts {w : World} {B : Nat} {v : Value} {xs : List (List Nat)} (h : OwnPs w B v xs) : ∃ p cap us, v = .slice p xs.length cap ∧ RowsI w B us xs ∧ At w p (psCells xs us) := by
 obtain ⟨us, ho, hr⟩ := h
 obtain ⟨p, cap, e, _, _, hat⟩ := At.of_own ho
 exact ⟨p, cap, us, e, hr, hat⟩
set_option maxRecDepth 20000 in
set_option maxHeartbeats 1000000 in
theorem smallPosets_any (w : World) : Calls Tryz.prog 67 #[] w (RetPs w smallR) := by
 have HPO := hid (fun k (hk : k < 4) w2 => posetsOf_any (k + 1) (by omega) (by omega) w2)
 have HL := hid (fun k (hk : k < 4) => smallK_len k (by omega))
 have HA := hid (fun k (hk : k < 4) => allR_len (n := k + 1) (by omega) (by omega))
 have HK : Hid (∀ k, smallK (k + 1) = smallK k ++ allR (k + 1)) := hid fun _ => rfl
 have HE : Hid (smallK 4 = smallR) := hid rfl
 go_enter Tryz.func67, Tryz.ntmps67
 go_wp2_with fail
 go_loopw [1, 2] (fun s1 s2 wr => ∃ k : Nat, k ≤ 4 ∧ s2 = .int .i64 ((k + 1 : Nat) : Int) ∧ OwnPs wr w.heap.size s1 (smallK k) ∧ Keeps w wr) (fun _ s2 _ => 5 - (intOf s2).toNat)
 case atStart => exact ⟨0, by omega, by first | rfl | simp, by simpa [smallK] using OwnPs.nil w w.heap.size, Keeps.refl w⟩
 case round =>
  obtain ⟨k, hk, rfl, hps, kw⟩ := hrel
  by_cases hlt : k < 4
  ·have hlt' : (((k + 1 : Nat) : Int)) ≤ 4 := by omega
   have HP2 := hid (HPO.out k hlt wr)
   have hl1 := HL.out k hlt
   have hl2 := HA.out k hlt
   have HKK := hid (HK.out k)
   obtain ⟨p1, q1, rfl, _, _⟩ := hps.shape
   have HPS := hid hps; clear hps
   generalize allR (k + 1) = S at *
   generalize hsk : smallK k = T at *
   clear hsk
   have hcast : ((k + 1 : Nat) : Int) + 1 = ((k + 1 + 1 : Nat) : Int) := by omega
   have HCA := hid hcast; clear hcast
   generalize hm : ((k + 1 : Nat) : Int) = m at *
   go_wp2_with fail
   refine HP2.out.mono ?_; rintro e w2 ⟨v2, rfl, hv2, k2⟩
   obtain ⟨p2, q2, us, rfl, hr2, hat2⟩ := hv2.parts
   have hsz := (kw.trans k2).size
   have KX := hid (kw.trans k2)
   have hr3 := hr2.mono kw.size
   go_wp2_with (at_builtin; refine appPs rfl _ _ rfl w.heap.size _ T rfl wr HPS.out k2 us S hr3 hsz _ _ rfl hat2 (by omega) ?_; intro v6 w6 hv6 hg6 hr6)
   go_roundw
   case rel => exact ⟨k + 1, by omega, by rw [← HCA.out], by rw [HKK.out]; exact hv6, KX.out.grown hg6 hr6⟩
   case measure => simp [intOf]; omega
  ·have e : k = 4 := by omega
   subst e
   have hlt' : ¬ (((4 + 1 : Nat) : Int)) ≤ 4 := by omega
   rw [HE.out] at hps
   go_wp2_with fail
   go_ret
   exact ⟨_, rfl, hps, kw⟩
end Go.Proofs.YtikooimokfbffaaGreatDoor
