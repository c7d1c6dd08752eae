import Derived.Test.YtfmmajgkjkmghaaGreatDoorHQ2
import Derived.Test.YtfmmajgkjkmghaaGreatDoorHHQ
import Derived.Test.YtfmmajgkjkmghaaGreatDoorHOQ
import Derived.Test.YtfmmajgkjkmghaaGreatDoorHVS
/- Walks: forks on both sides. -/
namespace Go.Proofs.YtfmmajgkjkmghaaGreatDoor
open Go.RowKit
end Go.Proofs.YtfmmajgkjkmghaaGreatDoor
namespace Go.Proofs.YtfmmajgkjkmghaaGreatDoor
open Go.RowKit
end Go.Proofs.YtfmmajgkjkmghaaGreatDoor
namespace Go.Proofs.YtfmmajgkjkmghaaGreatDoor
open Go.RowKit
end Go.Proofs.YtfmmajgkjkmghaaGreatDoor
namespace Go.Proofs.YtfmmajgkjkmghaaGreatDoor
open Go.RowKit
end Go.Proofs.YtfmmajgkjkmghaaGreatDoor
namespace Go.Proofs.YtfmmajgkjkmghaaGreatDoor
open Go.RowKit
theorem run_makeI0 (w : World) (n : Nat) (hn : n ≤ 2147483648) : ∃ w', (Instr.makeSlice 24 (.int .i64 0) (.int .i64 (n : Int))).run Tryz.prog w = .ok (.slice (some ⟨w.heap.size, 0, none⟩) 0 n) w' ∧
   OwnI w' w.heap.size (.slice (some ⟨w.heap.size, 0, none⟩) 0 n) [] ∧ Keeps w w' := by
 obtain ⟨i0, hi, hz0, hz1, hz2⟩ := info_parts infoI
 obtain ⟨w', hr, ho, hg⟩ := run_make_own (P := Tryz.prog) w w.heap.size 24 2 i0 _ 1 Tryz.underlying24 hi hz0 hz1 .i64 .i64 n (by rw [hz2]; omega) (by unfold maxLen; omega) (Nat.le_refl _)
 exact ⟨w', hr, ho, (Keeps.refl w).grown hg (by simp)⟩
set_option maxRecDepth 20000 in
set_option maxHeartbeats 4000000 in
theorem permutations_any (w0 w : World) (ga gb n : Nat) (va vb : Value) (a best : List Nat) (kp : Keeps w0 w) (ca : w.cell? ⟨ga, 0, none⟩ = some va) (cb : w.cell? ⟨gb, 0, none⟩ = some vb) (fb : w.frozen? ⟨gb, 0, none⟩ = false)
  (hb : OwnI w w0.heap.size vb (zs best)) (hoff : ∀ k, vb.ownBlock = some k → k ≠ ga ∧ k ≠ gb) (hab' : gb ≠ ga) (hgb : w0.heap.size ≤ gb)
  (hva : Ints w0 va (zs a)) (hn : n ≤ 5) (hal : a.length = n) (hab : Bnd n a) (hbl : best.length = n) (hbb : Bnd n best) :
  Calls Tryz.prog 77 #[.int .i64 n, .func (.func 78) #[] #[.pointer (some ⟨ga, 0, none⟩), .pointer (some ⟨gb, 0, none⟩)]] w fun e w' => e = .returned (.tuple #[]) ∧
   ∃ vb', w'.cell? ⟨gb, 0, none⟩ = some vb' ∧ OwnI w' w0.heap.size vb' (zs ((permP n).foldl (betP a) best)) ∧ Keeps w0 w' := by
 have hcf1 : ∀ args w, (callFunc 138 args).run Tryz.prog w = .ok (.enter 138 args) w := enters_perm1
 have sa := World.block_lt_of_cell? _ _ ca
 have sb := World.block_lt_of_cell? _ _ cb
 have s0 := kp.size
 have k1 := ((Keeps.refl w).alloc (.cells #[.int .i64 (n : Int)] 2)).alloc (.cells #[.func (.func 78) #[] #[.pointer (some ⟨ga, 0, none⟩), .pointer (some ⟨gb, 0, none⟩)]] 95)
 obtain ⟨wm, hmk, hown, km⟩ := run_makeI0 ((w.alloc (.cells #[.int .i64 (n : Int)] 2)).alloc (.cells #[.func (.func 78) #[] #[.pointer (some ⟨ga, 0, none⟩), .pointer (some ⟨gb, 0, none⟩)]] 95)) n (by omega)
 have hsz : ((w.alloc (.cells #[.int .i64 (n : Int)] 2)).alloc (.cells #[.func (.func 78) #[] #[.pointer (some ⟨ga, 0, none⟩), .pointer (some ⟨gb, 0, none⟩)]] 95)).heap.size = w.heap.size + 2 := by simp
 have cn : ((w.alloc (.cells #[.int .i64 (n : Int)] 2)).alloc (.cells #[.func (.func 78) #[] #[.pointer (some ⟨ga, 0, none⟩), .pointer (some ⟨gb, 0, none⟩)]] 95)).cell? ⟨w.heap.size, 0, none⟩ = some (.int .i64 n) := by simp
 have cf : ((w.alloc (.cells #[.int .i64 (n : Int)] 2)).alloc (.cells #[.func (.func 78) #[] #[.pointer (some ⟨ga, 0, none⟩), .pointer (some ⟨gb, 0, none⟩)]] 95)).cell? ⟨w.heap.size + 1, 0, none⟩ = some (.func (.func 78) #[] #[.pointer (some ⟨ga, 0, none⟩), .pointer (some ⟨gb, 0, none⟩)]) := by simp
 rw [hsz] at hmk hown
 have hst : ∀ (a : Addr) (f : Fn) (b c : Array Value) (m : Mode) (w' : World), (store a (.func f b c) m).run Tryz.prog w' = stored Tryz.prog w' a (.func f b c) m := fun a f b c m w' => run_store _ w' a _ m rfl
 have hszm := km.size
 rw [hsz] at hszm
 have KM := hid (k1.trans km)
 have CN := hid (km.cell cn)
 have CF := hid (km.cell cf)
 have HOWN := hid hown
 clear cn cf hown km k1
 have hcg : ∀ W : World, ((W.alloc (.cells #[.slice (some ⟨w.heap.size + 2, 0, none⟩) 0 n] 24)).alloc (.cells #[.nilFunc] 128)).cell? ⟨W.heap.size + 1, 0, none⟩ = some .nilFunc := fun W => by simp
 go_enter Tryz.func77, Tryz.ntmps77
 go_wp2_with fail
 have kA := ((Keeps.refl wm).alloc (.cells #[.slice (some ⟨w.heap.size + 2, 0, none⟩) 0 n] 24)).alloc (.cells #[.func (.func 138) #[] #[.pointer (some ⟨wm.heap.size, 0, none⟩), .pointer (some ⟨w.heap.size, 0, none⟩), .pointer (some ⟨w.heap.size + 1, 0, none⟩), .pointer (some ⟨wm.heap.size + 1, 0, none⟩)]] 128)
 have kB := KM.out.trans kA
 have hN : PNe (w.heap.size + 2) wm.heap.size w.heap.size (w.heap.size + 1) (wm.heap.size + 1) ga gb := by
  have hg : w.heap.size + 2 < wm.heap.size := (HOWN.out.len _ rfl).2
  constructor <;> omega
 have hP : PSt w0 ((wm.alloc (.cells #[.slice (some ⟨w.heap.size + 2, 0, none⟩) 0 n] 24)).alloc (.cells #[.func (.func 138) #[] #[.pointer (some ⟨wm.heap.size, 0, none⟩), .pointer (some ⟨w.heap.size, 0, none⟩), .pointer (some ⟨w.heap.size + 1, 0, none⟩), .pointer (some ⟨wm.heap.size + 1, 0, none⟩)]] 128))
   (w.heap.size + 2) wm.heap.size w.heap.size (w.heap.size + 1) (wm.heap.size + 1) ga gb n va [] best vb := by
  refine ⟨kp.trans kB, by simp, by simp, kA.cell CN.out, kA.cell CF.out, by simp, kB.cell ca, kB.cell cb, by rw [kB.both.2 gb 0 sb]; exact fb, ?_, hb.keeps kB, ?_⟩
  ·exact (HOWN.out.keeps kA).mono (by omega)
  ·intro k hk
   have h1 := hoff k hk
   have h2 := (hb.len k hk).2
   have hg : w.heap.size + 2 < wm.heap.size := (HOWN.out.len _ rfl).2
   unfold PBox
   omega
 have hg := grow_any w0 (w.heap.size + 2) wm.heap.size w.heap.size (w.heap.size + 1) (wm.heap.size + 1) ga gb n va a hN (by omega) (by omega) hgb hva hn hal hab n [] best _ vb hP (by simp) (by simp) (fun x hx => hx) hbl hbb
 refine Calls.mono hg ?_
 rintro e w5 ⟨rfl, vb5, h5⟩
 go_wp2_with fail
 go_end0
 exact ⟨rfl, vb5, h5.cb, h5.bst, h5.kp⟩
set_option maxRecDepth 20000 in
theorem leastRelation_any (a : List Nat) (va : Value) (w : World) (hva : Ints w va (zs a)) (hn : a.length ≤ 5) (hab : Bnd a.length a) :
  Calls Tryz.prog 30 #[va] w (RetI w (zs (leastP a))) := by
 have kA := (Keeps.refl w).alloc (.cells #[va] 24)
 have cA : (w.alloc (.cells #[va] 24)).cell? ⟨w.heap.size, 0, none⟩ = some va := by simp
 have HC := hid (cloneI_any (zs a) va _ (hva.keeps kA))
 have HS := hid (fun w2 (k : Keeps w w2) => sizeI_any (zs a) va w2 (hva.keeps k))
 rw [zs_length] at HS
 have HL := hid (leastP_fold a)
 have HVA := hid hva
 obtain ⟨p, cap, rfl, _⟩ := hva
 have HP := hid (fun w2 gb vb => permutations_any w w2 w.heap.size gb a.length (.slice p (zs a).length cap) vb a a)
 generalize hn2 : a.length = n at *
 have HN := hid hn2; clear hn2
 go_enter Tryz.func30, Tryz.ntmps30
 go_wp2_with fail
 refine HC.out.mono ?_; rintro e w2 ⟨v2, rfl, hv2, k2⟩
 have cA2 := k2.cell cA
 have kB := (kA.trans k2).alloc (.cells #[v2] 24)
 have hs2 := (kA.trans k2).size
 have hoff : ∀ k, v2.ownBlock = some k → k ≠ w.heap.size ∧ k ≠ w2.heap.size := fun k hk => by
  have := hv2.len k hk
  simp at this
  omega
 have hsz := k2.size
 have hne : w2.heap.size ≠ w.heap.size := by simp at hsz; omega
 have HP2 := hid (HP.out (w2.alloc (.cells #[v2] 24)) w2.heap.size v2 kB ((Keeps.refl w2).alloc _ |>.cell cA2) (by simp) (by simp) ((hv2.mono (by simp)).keeps ((Keeps.refl w2).alloc _)) hoff hne (by omega) HVA.out hn trivial hab trivial hab)
 have cA3 := ((Keeps.refl w2).alloc (.cells #[v2] 24)).cell cA2
 have HL2 : Hid (leastP a = (permP n).foldl (betP a) a) := hid (by rw [HL.out])
 obtain ⟨p2, c2, rfl, -, -, -⟩ := At.of_own hv2
 clear hne hoff hab hn hsz hs2 HP hv2 HC
 go_wp2_with fail
 refine (HS.out _ kB).mono ?_; rintro e w3 ⟨rfl, rfl⟩
 go_wp2_with fail
 refine HP2.out.mono ?_; rintro e w4 ⟨rfl, vb, cb4, hb4, k4⟩
 obtain ⟨p4, c4, rfl, -, -, -⟩ := At.of_own hb4
 go_wp2_with fail
 go_ret
 exact ⟨_, rfl, by rw [HL2.out]; exact hb4, k4⟩
end Go.Proofs.YtfmmajgkjkmghaaGreatDoor
