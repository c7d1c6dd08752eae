import Derived.Test.YtikooimokfbffaaGreatDoorHP4
import Derived.Test.YtikooimokfbffaaGreatDoorHL1
import Derived.Test.YtikooimokfbffaaGreatDoorHHE
import Derived.Test.YtikooimokfbffaaGreatDoorHOG
/- Walks: the reference's reader of formulas, at all levels of the grammar. -/
namespace Go.Proofs.YtikooimokfbffaaGreatDoor
open Go.RowKit
set_option maxRecDepth 20000 in
theorem l02Var_any (v : Nat) (w : World) : Calls Tryz.prog 25 #[.int .i64 v] w (RetN w (Fm.var v).enc) := by
 go_enter Tryz.func25, Tryz.ntmps25
 go_wp2
 go_ret
 exact ⟨_, rfl, OwnN.lit1 w ⟨0, v⟩, (Keeps.refl w).alloc _⟩
end Go.Proofs.YtikooimokfbffaaGreatDoor
namespace Go.Proofs.YtikooimokfbffaaGreatDoor
open Go.RowKit
theorem tyne : (26 : TypeId) ≠ 62 := by decide
theorem infoL : (Tryz.prog.info? 26).map (fun i => (i.zero, i.size, i.bytes)) = some (some (.slice none 0 0), 1, 24) := by kernel_rfl
theorem off_rows {w : World} {B B' : Nat} {v : Value} {n : Nat} {hs vs : List Value} {xs : List (List Nd)} (ho : w.ownsRow B 26 1 v n hs) (hr : RowsN w B' vs xs) : Off v vs := fun i hi k hk =>
 type_ne ho (hr.2 i hi (by have := hr.1; omega)) tyne hk
theorem OwnL.empty (w : World) : OwnL (w.alloc (.cells #[] 26)) w.heap.size (.slice (some ⟨w.heap.size, 0, none⟩) 0 0) [] :=
 ⟨[], World.ownsRow_made w #[] 0 (Nat.le_refl _) (by simp [maxLen]) (by simp), RowsN.nil _ _, Apart.nil, Off.nil _⟩
theorem OwnL.snoc {w0 w w' : World} {B : Nat} {v v' u : Value} {xs : List (List Nd)} {x : List Nd} {vs : List Value} (hr : RowsN w0 B vs xs) (ha : Apart vs) (ho : w.ownsRow B 26 1 v xs.length vs) (k : Keeps w0 w) (hu : OwnN w w0.heap.size u x) (hB : B ≤ w0.heap.size)
  (ho' : w'.ownsRow B 26 1 v' (xs.length + 1) (vs ++ [u])) (hg : w.grownBy w' v.ownBlock) : OwnL w' B v' (xs ++ [x]) := by
 have hrw := hr.keeps k
 have hoff := off_rows ho hrw
 have hr' : RowsN w' B vs xs := hrw.touch (Touch.grown hg) (fun i hb e => hoff.not_blk e.symm hb)
 have hu' : OwnN w' B u x := (hu.touch (Touch.grown hg) (fun i hi e => type_ne ho hu tyne e.symm hi)).mono hB
 have hrows := RowsN.snoc hu' hr'
 refine ⟨vs ++ [u], by simpa using ho', hrows, Apart.snoc (fun i hi hb => ?_) ha, off_rows ho' hrows⟩
 have := (hu.len i hi).1
 have := (hr.lt hb).2
 omega
theorem appLK {w : World} {o : Oper} {a : Act} {K : Act → World → Prop} {Q : Exit → Act → World → Prop} (s x : Operand)
  (ho : o.op = .call { callee := .builtin .append, args := #[s, x], argTypes := #[52, 52] }) (base : Nat) (v : Value) (xs : List (List Nd)) (hs : a.eval s = v)
  (w0 : World) (hown : OwnL w0 base v xs) (k : Keeps w0 w) (u : Value) (y : List Nd) (hu : OwnN w w0.heap.size u y) (hbase : base ≤ w0.heap.size)
  (p : Option Addr) (c : Nat) (hx : a.eval x = .slice p 1 c) (hat : At w p [u]) (hlen : xs.length ≤ 2147483648)
  (h : ∀ v' w', OwnL w' base v' (xs ++ [y]) → w.grownBy w' v.ownBlock → (∀ k, v.ownBlock = some k → base ≤ k) → K (a.put o.dst v') w') : o.wp Tryz.prog a w K Q := by
 obtain ⟨i0, hi, hz0, hz1, hz2⟩ := info_parts infoL
 obtain ⟨vs, hrow, hr, ha, _⟩ := hown
 have hone : ∀ z ∈ [u], z.oneCell' = true := by
  intro z hz
  simp at hz; subst hz
  obtain ⟨p, c, e, _⟩ := At.of_own hu
  rw [e]; rfl
 have hrow' := own_keeps hrow k
 refine wp_append_at s x _ ho _ i0 _ 1 24 Tryz.underlying52 hi hz0 hz1 hz2 rfl (by decide) base v _ _ hs hrow' p 1 c [u] hx (by simp) hat hone (by unfold maxLen; omega) (by omega) (by have := k.size; omega) ?_
 intro v' w' h1 h2 h3
 exact h v' w' (OwnL.snoc hr ha hrow' k hu hbase h1 h2) h2 h3
theorem appL {w : World} {ops : Array Oper} {rest : List Oper} {o : Oper} {a : Act} {Q : Exit → Act → World → Prop} (hgd : o.guard = none) (s x : Operand)
  (ho : o.op = .call { callee := .builtin .append, args := #[s, x], argTypes := #[52, 52] }) (base : Nat) (v : Value) (xs : List (List Nd)) (hs : a.eval s = v)
  (w0 : World) (hown : OwnL w0 base v xs) (k : Keeps w0 w) (u : Value) (y : List Nd) (hu : OwnN w w0.heap.size u y) (hbase : base ≤ w0.heap.size)
  (p : Option Addr) (c : Nat) (hx : a.eval x = .slice p 1 c) (hat : At w p [u]) (hlen : xs.length ≤ 2147483648)
  (h : ∀ v' w', OwnL w' base v' (xs ++ [y]) → w.grownBy w' v.ownBlock → (∀ k, v.ownBlock = some k → base ≤ k) → wpList Tryz.prog ops Q rest (a.put o.dst v') w') : wpList Tryz.prog ops Q (o :: rest) a w :=
 wpList_plain hgd fun _ hK => appLK s x ho base v xs hs w0 hown k u y hu hbase p c hx hat hlen fun v' w' h1 h2 h3 => hK _ _ (h v' w' h1 h2 h3)
end Go.Proofs.YtikooimokfbffaaGreatDoor
