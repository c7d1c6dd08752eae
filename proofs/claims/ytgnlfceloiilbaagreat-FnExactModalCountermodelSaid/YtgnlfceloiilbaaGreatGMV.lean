/- Plain: the generated countermodel of a sequent: which types are its worlds, what it shows. No program in sight. -/
import Derived.Test.YtgnlfceloiilbaaGreatGNP
import Derived.Test.YtgnlfceloiilbaaGreatGMY
import Derived.Test.YtgnlfceloiilbaaGreatGNH1
import Derived.Test.YtgnlfceloiilbaaGreatGVB
import Derived.Test.YtgnlfceloiilbaaGreatGSU
import Derived.Test.YtgnlfceloiilbaaGreatGMW
namespace Go.Proofs.YtgnlfceloiilbaaGreat
open Go.RowKit
/-- the least living type that passes (0 if there is none) -/
noncomputable def lstL (L : Nat) (E : List Fm) (N : Nat) (q : Nat → Bool) : Nat := (fstOf q (livL L E N)).toNat
theorem fst_has (q : Nat → Bool) : ∀ l : List Nat, l.any q = true → ∃ m ∈ l, q m = true ∧ fstOf q l = (m : Int)
  | [], h => by simp at h
  | a :: l, h => by
    by_cases ha : q a = true
    · exact ⟨a, by simp, ha, by rw [fstOf, if_pos ha]⟩
    · rw [List.any_cons, Bool.or_eq_true] at h
      obtain ⟨m, h1, h2, h3⟩ := fst_has q l (h.resolve_left ha)
      exact ⟨m, List.mem_cons_of_mem _ h1, h2, by rw [fstOf, if_neg ha, h3]⟩
theorem livL_mem {L : Nat} {E : List Fm} {N m : Nat} : m ∈ livL L E N ↔ m < N ∧ liveB L E N m = true := by
  unfold livL
  rw [List.mem_filter, List.mem_range]
theorem lstL_spec {L : Nat} {E : List Fm} {N : Nat} {q : Nat → Bool} (h : (List.range N).any (fun t => liveB L E N t && q t) = true) :
    fstOf q (livL L E N) = (lstL L E N q : Int) ∧ lstL L E N q < N ∧ liveB L E N (lstL L E N q) = true ∧ q (lstL L E N q) = true := by
  obtain ⟨t, ht, hq⟩ := List.any_eq_true.1 h
  rw [Bool.and_eq_true] at hq
  obtain ⟨m, h1, h2, h3⟩ := fst_has q (livL L E N) (List.any_eq_true.2 ⟨t, livL_mem.2 ⟨List.mem_range.1 ht, hq.1⟩, hq.2⟩)
  have e : lstL L E N q = m := by unfold lstL; rw [h3]; rfl
  rw [e]
  exact ⟨h3, (livL_mem.1 h1).1, (livL_mem.1 h1).2, h2⟩
theorem lst_idx (L : Nat) (E : List Fm) (N : Nat) (q : Nat → Bool) : idxOf (fun t => liveB L E N t && q t) (List.range N) 0 = fstOf q (livL L E N) := by
  unfold livL
  rw [fst_filter]
  exact fst_idx _ N 0 (by omega)
/-- a world and one part: its witness, if there is none as yet -/
noncomputable def cmI (L : Nat) (E : List Fm) (N f : Nat) (W : List Nat) (i : Nat) : List Nat :=
  if demB E i f || W.any (witB L E i f) then W else W ++ [lstL L E N (witB L E i f)]
/-- a world of D that sees none as yet -/
noncomputable def cmD (L : Nat) (E : List Fm) (N f : Nat) (W : List Nat) : List Nat :=
  if decide (L ≠ 1) || W.any (seeB L E f) then W else W ++ [lstL L E N (seeB L E f)]
/-- a world and the first parts -/
noncomputable def cmP (L : Nat) (E : List Fm) (N f : Nat) (W : List Nat) (k : Nat) : List Nat := ((List.range k).filter fun i => isMo (E.getD i .fls)).foldl (cmI L E N f) W
noncomputable def cmW (L : Nat) (E : List Fm) (N f : Nat) (W : List Nat) : List Nat := cmD L E N f (cmP L E N f W E.length)
theorem cmP_zero (L : Nat) (E : List Fm) (N f : Nat) (W : List Nat) : cmP L E N f W 0 = W := rfl
theorem cmP_yes {L : Nat} {E : List Fm} {N f : Nat} {W : List Nat} {k : Nat} (h : isMo (E.getD k .fls) = true) : cmP L E N f W (k + 1) = cmI L E N f (cmP L E N f W k) k := by
  unfold cmP
  rw [range_take, if_pos h, List.foldl_append]; rfl
theorem cmP_no {L : Nat} {E : List Fm} {N f : Nat} {W : List Nat} {k : Nat} (h : isMo (E.getD k .fls) = false) : cmP L E N f W (k + 1) = cmP L E N f W k := by
  unfold cmP
  rw [range_take, if_neg (by rw [h]; simp), List.append_nil]
/-- the program's way: along the needs -/
noncomputable def cmN (L : Nat) (E : List Fm) (N f : Nat) (W : List Nat) (k : Nat) : List Nat := ((mods E).take k).foldl (cmI L E N f) W
theorem cmN_zero (L : Nat) (E : List Fm) (N f : Nat) (W : List Nat) : cmN L E N f W 0 = W := rfl
theorem cmN_next {L : Nat} {E : List Fm} {N f : Nat} {W : List Nat} {k : Nat} (h : k < (mods E).length) : cmN L E N f W (k + 1) = cmI L E N f (cmN L E N f W k) (mods E)[k] := by
  unfold cmN
  rw [List.take_succ_eq_append_getElem h, List.foldl_append]; rfl
theorem cmN_all (L : Nat) (E : List Fm) (N f : Nat) (W : List Nat) : cmN L E N f W (mods E).length = cmP L E N f W E.length := by
  unfold cmN cmP
  rw [List.take_length]; rfl
/-- worlds are living types -/
def LivW (L : Nat) (E : List Fm) (N : Nat) (W : List Nat) : Prop := ∀ m ∈ W, m < N ∧ liveB L E N m = true
theorem LivW.snoc {L : Nat} {E : List Fm} {N : Nat} {W : List Nat} {m : Nat} (h : LivW L E N W) (h1 : m < N) (h2 : liveB L E N m = true) : LivW L E N (W ++ [m]) := by
  intro x hx
  rcases List.mem_append.1 hx with hx | hx
  · exact h x hx
  · rw [List.mem_singleton.1 hx]; exact ⟨h1, h2⟩
/-- a living type that lacks a witness for a part finds one -/
theorem wit_lst {L : Nat} {E : List Fm} {N f i : Nat} (hf : f < N) (hl : liveB L E N f = true) (hi : i ∈ mods E) (hd : demB E i f = false) :
    fstOf (witB L E i f) (livL L E N) = (lstL L E N (witB L E i f) : Int) ∧ lstL L E N (witB L E i f) < N ∧ liveB L E N (lstL L E N (witB L E i f)) = true := by
  have h := (live_self L E N f hf hl).2
  unfold surB at h
  rw [Bool.and_eq_true] at h
  have h2 := List.all_eq_true.1 h.2 i hi
  rw [hd, Bool.false_or] at h2
  have := lstL_spec h2
  exact ⟨this.1, this.2.1, this.2.2.1⟩
theorem see_lst {E : List Fm} {N f : Nat} (hf : f < N) (hl : liveB 1 E N f = true) :
    fstOf (seeB 1 E f) (livL 1 E N) = (lstL 1 E N (seeB 1 E f) : Int) ∧ lstL 1 E N (seeB 1 E f) < N ∧ liveB 1 E N (lstL 1 E N (seeB 1 E f)) = true := by
  have h := (live_self 1 E N f hf hl).2
  unfold surB at h
  rw [Bool.and_eq_true] at h
  have h2 := h.1
  rw [show decide ((1 : Nat) ≠ 1) = false from by decide, Bool.false_or] at h2
  have := lstL_spec h2
  exact ⟨this.1, this.2.1, this.2.2.1⟩
theorem mods_mem {E : List Fm} {i : Nat} : i ∈ mods E ↔ i < E.length ∧ isMo (E.getD i .fls) = true := by
  unfold mods
  rw [List.mem_filter, List.mem_range]
theorem cmI_liv {L : Nat} {E : List Fm} {N f i : Nat} {W : List Nat} (hf : f < N) (hl : liveB L E N f = true) (hi : i ∈ mods E) (h : LivW L E N W) : LivW L E N (cmI L E N f W i) := by
  unfold cmI
  split
  · exact h
  · rename_i hn
    rw [Bool.or_eq_true, not_or] at hn
    have := wit_lst hf hl hi (by simpa using hn.1)
    exact h.snoc this.2.1 this.2.2
theorem cmD_liv {L : Nat} {E : List Fm} {N f : Nat} {W : List Nat} (hf : f < N) (hl : liveB L E N f = true) (h : LivW L E N W) : LivW L E N (cmD L E N f W) := by
  unfold cmD
  split
  · exact h
  · rename_i hn
    rw [Bool.or_eq_true, not_or] at hn
    have hL : L = 1 := by simpa using hn.1
    subst hL
    have := see_lst hf hl
    exact h.snoc this.2.1 this.2.2
theorem cmI_len (L : Nat) (E : List Fm) (N f : Nat) (W : List Nat) (i : Nat) : (cmI L E N f W i).length ≤ W.length + 1 := by
  unfold cmI
  split <;> simp
theorem cmD_len (L : Nat) (E : List Fm) (N f : Nat) (W : List Nat) : (cmD L E N f W).length ≤ W.length + 1 := by
  unfold cmD
  split <;> simp
theorem cmP_both {L : Nat} {E : List Fm} {N f : Nat} {W : List Nat} (hf : f < N) (hl : liveB L E N f = true) (h : LivW L E N W) : ∀ k, k ≤ E.length → LivW L E N (cmP L E N f W k) ∧ (cmP L E N f W k).length ≤ W.length + k
  | 0, _ => ⟨h, Nat.le_refl _⟩
  | k + 1, hk => by
    have ih := cmP_both hf hl h k (by omega)
    cases hm : isMo (E.getD k .fls)
    · rw [cmP_no hm]; exact ⟨ih.1, by omega⟩
    · rw [cmP_yes hm]
      have := cmI_len L E N f (cmP L E N f W k) k
      exact ⟨cmI_liv hf hl (mods_mem.2 ⟨by omega, hm⟩) ih.1, by omega⟩
theorem cmN_both {L : Nat} {E : List Fm} {N f : Nat} {W : List Nat} (hf : f < N) (hl : liveB L E N f = true) (h : LivW L E N W) : ∀ k, k ≤ (mods E).length → LivW L E N (cmN L E N f W k) ∧ (cmN L E N f W k).length ≤ W.length + k
  | 0, _ => ⟨h, Nat.le_refl _⟩
  | k + 1, hk => by
    have ih := cmN_both hf hl h k (by omega)
    rw [cmN_next (by omega)]
    have := cmI_len L E N f (cmN L E N f W k) ((mods E)[k]'(by omega))
    exact ⟨cmI_liv hf hl (List.getElem_mem _) ih.1, by omega⟩
theorem cmW_both {L : Nat} {E : List Fm} {N f : Nat} {W : List Nat} (hf : f < N) (hl : liveB L E N f = true) (h : LivW L E N W) : LivW L E N (cmW L E N f W) ∧ (cmW L E N f W).length ≤ W.length + E.length + 1 := by
  have := cmP_both hf hl h E.length (Nat.le_refl _)
  unfold cmW
  have hd := cmD_len L E N f (cmP L E N f W E.length)
  exact ⟨cmD_liv hf hl this.1, by omega⟩
/-- the rounds: world x takes what it lacks; more than eight worlds end them -/
noncomputable def cmG (L : Nat) (E : List Fm) (N : Nat) : Nat → Nat → List Nat → List Nat
  | 0, _, W => W
  | k + 1, x, W => if x < W.length ∧ W.length ≤ 8 then cmG L E N k (x + 1) (cmW L E N (W.getD x 0) W) else W
/-- the worlds of the countermodel that begins with a type -/
noncomputable def cmR (L : Nat) (E : List Fm) (N m : Nat) : List Nat := cmG L E N 9 0 [m]
theorem cmG_next {L : Nat} {E : List Fm} {N x : Nat} {W : List Nat} (h : x < W.length) (h8 : W.length ≤ 8) : cmG L E N (9 - x) x W = cmG L E N (9 - (x + 1)) (x + 1) (cmW L E N (W.getD x 0) W) := by
  rw [show 9 - x = (9 - (x + 1)) + 1 from by omega, cmG, if_pos ⟨h, h8⟩]
theorem cmG_end {L : Nat} {E : List Fm} {N x : Nat} {W : List Nat} (h : ¬ (x < W.length ∧ W.length ≤ 8)) : ∀ k, cmG L E N k x W = W
  | 0 => rfl
  | k + 1 => by rw [cmG, if_neg h]
/-- bits of those that pass -/
def mskB (p : Nat → Bool) : Nat → Nat
  | 0 => 0
  | n + 1 => if p n then mskB p n ||| 2 ^ n else mskB p n
theorem mskB_lt (p : Nat → Bool) : ∀ n, mskB p n < 2 ^ n
  | 0 => by simp [mskB]
  | n + 1 => by
    have ih := mskB_lt p n
    have h2 : 2 ^ n < 2 ^ (n + 1) := Nat.pow_lt_pow_right (by omega) (by omega)
    rw [mskB]
    split
    · exact Nat.or_lt_two_pow (by omega) h2
    · omega
/-- the arrows of world x -/
noncomputable def cmA (L : Nat) (E : List Fm) (W : List Nat) (x : Nat) : Nat := mskB (fun y => seeB L E (W.getD x 0) (W.getD y 0)) W.length
/-- the values, once part i of world x is laid -/
def vrS : Fm → Nat
  | .var k => k
  | _ => 0
def isVr : Fm → Bool
  | .var _ => true
  | _ => false
def cmV1 (E : List Fm) (m x : Nat) (V : List Nat) (i : Nat) : List Nat :=
  if isVr (E.getD i .fls) && m.testBit i then V.set (vrS (E.getD i .fls)) (V.getD (vrS (E.getD i .fls)) 0 ||| 2 ^ x) else V
def cmVx (E : List Fm) (W : List Nat) (V : List Nat) (x k : Nat) : List Nat := (List.range k).foldl (cmV1 E (W.getD x 0) x) V
def cmV (E : List Fm) (W : List Nat) : Nat → List Nat
  | 0 => List.replicate 6 0
  | x + 1 => cmVx E W (cmV E W x) x E.length
theorem cmVx_next (E : List Fm) (W V : List Nat) (x k : Nat) : cmVx E W V x (k + 1) = cmV1 E (W.getD x 0) x (cmVx E W V x k) k := by
  unfold cmVx
  rw [List.range_succ, List.foldl_append]; rfl
theorem cmV1_len (E : List Fm) (m x : Nat) (V : List Nat) (i : Nat) : (cmV1 E m x V i).length = V.length := by
  unfold cmV1
  split <;> simp
theorem cmV1_lt {E : List Fm} {m x n : Nat} {V : List Nat} {i : Nat} (hx : x < n) (h : ∀ v ∈ V, v < 2 ^ n) : ∀ v ∈ cmV1 E m x V i, v < 2 ^ n := by
  unfold cmV1
  split
  · intro v hv
    rcases List.mem_or_eq_of_mem_set hv with hv | rfl
    · exact h v hv
    · refine Nat.or_lt_two_pow ?_ (Nat.pow_lt_pow_right (by omega) hx)
      rw [List.getD_eq_getElem?_getD]
      cases e : V[vrS (E.getD i .fls)]? with
      | none => simpa using Nat.two_pow_pos n
      | some a => simpa using h a (List.mem_of_getElem? e)
  · exact h
theorem cmVx_both {E : List Fm} {W V : List Nat} {x n : Nat} (hx : x < n) (h : ∀ v ∈ V, v < 2 ^ n) : ∀ k, (cmVx E W V x k).length = V.length ∧ ∀ v ∈ cmVx E W V x k, v < 2 ^ n
  | 0 => ⟨rfl, h⟩
  | k + 1 => by
    have ih := cmVx_both (E := E) (W := W) hx h k
    rw [cmVx_next]
    exact ⟨by rw [cmV1_len]; exact ih.1, cmV1_lt hx ih.2⟩
theorem cmV_both (E : List Fm) (W : List Nat) (n : Nat) : ∀ x, x ≤ n → (cmV E W x).length = 6 ∧ ∀ v ∈ cmV E W x, v < 2 ^ n
  | 0, _ => ⟨by simp [cmV], fun v hv => by rw [cmV] at hv; rw [(List.mem_replicate.1 hv).2]; exact Nat.two_pow_pos n⟩
  | x + 1, h => by
    have ih := cmV_both E W n x (by omega)
    have := cmVx_both (E := E) (W := W) (x := x) (by omega) ih.2 E.length
    rw [cmV]
    exact ⟨by rw [this.1]; exact ih.1, this.2⟩
end Go.Proofs.YtgnlfceloiilbaaGreat
/- Rows of needs that grow; the box of a search's types. -/
namespace Go.Proofs.YtgnlfceloiilbaaGreat
open Go.RowKit
def RowsB (w : World) (B : Nat) (vs : List Value) (xs : List (List Bool)) : Prop := vs.length = xs.length ∧ ∀ i (h1 : i < vs.length) (h2 : i < xs.length), OwnB w B vs[i] xs[i]
theorem RowsB.nil (w : World) (B : Nat) : RowsB w B [] [] := ⟨rfl, fun i h => by simp at h⟩
theorem RowsB.snoc {w : World} {B : Nat} {v : Value} {vs : List Value} {x : List Bool} {xs : List (List Bool)} (h : OwnB w B v x) (hs : RowsB w B vs xs) : RowsB w B (vs ++ [v]) (xs ++ [x]) :=
  ⟨by simp [hs.1], fun i h1 h2 => by
    have hl := hs.1
    by_cases hi : i < vs.length
    · rw [List.getElem_append_left hi, List.getElem_append_left (by omega)]; exact hs.2 i hi (by omega)
    · simp at h1
      obtain rfl : i = vs.length := by omega
      rw [List.getElem_append_right (Nat.le_refl _), List.getElem_append_right (by omega)]
      simpa [hl] using h⟩
theorem OwnB.touch {w w' : World} {S : Nat → Prop} {B : Nat} {v : Value} {x : List Bool} (h : OwnB w B v x) (k : Touch w w' S) (hS : ∀ i, v.ownBlock = some i → ¬ S i) : OwnB w' B v x := own_touch h k hS
theorem RowsB.touch {w w' : World} {S : Nat → Prop} {B : Nat} {vs : List Value} {xs : List (List Bool)} (h : RowsB w B vs xs) (k : Touch w w' S) (hS : ∀ i, blk vs i → ¬ S i) : RowsB w' B vs xs :=
  ⟨h.1, fun i h1 h2 => (h.2 i h1 h2).touch k (fun j e => hS j ⟨i, h1, e⟩)⟩
theorem RowsB.keeps {w w' : World} {B : Nat} {vs : List Value} {xs : List (List Bool)} (h : RowsB w B vs xs) (k : Keeps w w') : RowsB w' B vs xs := ⟨h.1, fun i h1 h2 => (h.2 i h1 h2).keeps k⟩
theorem RowsB.lt {w : World} {B : Nat} {vs : List Value} {xs : List (List Bool)} (h : RowsB w B vs xs) {k : Nat} (hk : blk vs k) : B ≤ k ∧ k < w.heap.size := by
  obtain ⟨i, hi, e⟩ := hk
  exact (h.2 i hi (by have := h.1; omega)).len k e
--
def neCells : List Nee → List Value → List Value
  | n :: ns, u :: us => .int .i64 n.ix :: .int .i64 n.kd :: u :: neCells ns us
  | _, _ => []
theorem neCells_len : ∀ (ns : List Nee) (us : List Value), ns.length = us.length → (neCells ns us).length = ns.length * 3
  | [], [], _ => rfl
  | n :: ns, u :: us, h => by
    have := neCells_len ns us (by simpa using h)
    simp only [neCells, List.length_cons, this]; omega
  | [], _ :: _, h => by simp at h
  | _ :: _, [], h => by simp at h
theorem neCells_snoc : ∀ (ns : List Nee) (us : List Value) (n : Nee) (u : Value), ns.length = us.length → neCells (ns ++ [n]) (us ++ [u]) = neCells ns us ++ [.int .i64 n.ix, .int .i64 n.kd, u]
  | [], [], _, _, _ => rfl
  | x :: ns, y :: us, n, u, h => by
    have := neCells_snoc ns us n u (by simpa using h)
    simp only [List.cons_append, neCells, this]
  | [], _ :: _, _, _, h => by simp at h
  | _ :: _, [], _, _, h => by simp at h
theorem neCells_get : ∀ (ns : List Nee) (us : List Value) (i : Nat) (h1 : i < ns.length) (h2 : i < us.length), (neCells ns us)[i * 3]? = some (.int .i64 ns[i].ix) ∧ (neCells ns us)[i * 3 + 1]? = some (.int .i64 ns[i].kd) ∧ (neCells ns us)[i * 3 + 2]? = some us[i]
  | n :: ns, u :: us, 0, _, _ => by simp [neCells]
  | n :: ns, u :: us, i + 1, h1, h2 => by
    have := neCells_get ns us i (by simpa using h1) (by simpa using h2)
    simpa [neCells, Nat.add_mul] using this
theorem infoNe : (Tryz.prog.info? 186).map (fun i => (i.zero, i.size, i.bytes)) = some (some (.agg #[.int .i64 0, .int .i64 0, .slice none 0 0]), 3, 40) := by kernel_rfl
theorem tyNeB : (186 : TypeId) ≠ 4 := by decide
/-- a row of needs of the call's own -/
def OwnNe (w : World) (B : Nat) (v : Value) (ns : List Nee) : Prop :=
  ∃ us, w.ownsRow B 186 3 v ns.length (neCells ns us) ∧ RowsB w B us (ns.map Nee.inn)
theorem OwnNe.nil (w : World) (B : Nat) : OwnNe w B (.slice none 0 0) [] := ⟨[], World.ownsRow_nil w B _ 3, RowsB.nil _ _⟩
theorem OwnNe.keeps {w w' : World} {B : Nat} {v : Value} {ns : List Nee} (h : OwnNe w B v ns) (k : Keeps w w') : OwnNe w' B v ns := by
  obtain ⟨us, h1, h2⟩ := h
  exact ⟨us, own_keeps h1 k, h2.keeps k⟩
/-- another row is written, of another type -/
theorem OwnNe.other {w w' : World} {B B' : Nat} {v u : Value} {ns : List Nee} {T : TypeId} {s m : Nat} {cs : List Value} {S : Nat → Prop} (h : OwnNe w B v ns) (ho : w.ownsRow B' T s u m cs) (t1 : T ≠ 186) (t2 : T ≠ 4) (hS : ∀ i, S i → u.ownBlock = some i) (k : Touch w w' S) : OwnNe w' B v ns := by
  obtain ⟨us, h1, h2⟩ := h
  refine ⟨us, own_touch h1 k (fun i e hi => type_ne ho h1 t1 (hS i hi) e), h2.touch k (fun i hb hi => ?_)⟩
  obtain ⟨j, hj, e⟩ := hb
  exact type_ne ho (h2.2 j hj (by have := h2.1; omega)) t2 (hS i hi) e
theorem OwnNe.shape {w : World} {B : Nat} {v : Value} {ns : List Nee} (h : OwnNe w B v ns) : ∃ p c, v = .slice p ns.length c := by
  obtain ⟨us, h1, _⟩ := h
  obtain ⟨p, c, e, _⟩ := At.of_own h1
  exact ⟨p, c, e⟩
/-- the row off a block that was made later -/
theorem OwnNe.neeO {w w' : World} {B g : Nat} {v : Value} {ns : List Nee} (_h : OwnNe w' B v ns) (hl : ns.length ≤ 8) (hb : ∀ n ∈ ns, n.inn.length ≤ 2147483648) (h0 : OwnNe w B v ns) (k : ∀ us, w.ownsRow B 186 3 v ns.length (neCells ns us) → RowsB w B us (ns.map Nee.inn) → w'.ownsRow B 186 3 v ns.length (neCells ns us) ∧ RowsB w' B us (ns.map Nee.inn)) (hg : w.heap.size ≤ g) : NeeO w' g v ns := by
  obtain ⟨us, a1, a2⟩ := h0
  obtain ⟨h1, h2⟩ := k us a1 a2
  have hul : us.length = ns.length := by rw [h2.1, List.length_map]
  obtain ⟨p, cap, e, hn, hm, hat⟩ := At.of_own h1
  refine ⟨p, cap, e, hn, hm, hl, fun i a => ?_⟩
  obtain ⟨g1, g2, g3⟩ := neCells_get ns us i a (by omega)
  have l2 := neCells_len ns us hul.symm
  obtain ⟨b, off, hp, hc⟩ := hat (i * 3) (by omega)
  obtain ⟨b', off', hp', hc'⟩ := hat (i * 3 + 1) (by omega)
  obtain ⟨b'', off'', hp'', hc''⟩ := hat (i * 3 + 2) (by omega)
  rw [hp] at hp' hp''
  cases hp'
  cases hp''
  rw [List.getElem?_eq_getElem (by omega)] at g1 g2 g3
  rw [Option.some.inj g1] at hc
  rw [Option.some.inj g2] at hc'
  rw [Option.some.inj g3] at hc''
  have hbl : b ≠ g := by
    rw [e, hp] at a1
    have := (World.ownsRow.lt a1 b (by
      rcases a1.2 with ⟨e0, _⟩ | ⟨g9, c9, _, e0, _⟩
      · cases e0
      · cases e0; rfl)).2
    omega
  have hu := a2.2 i (by omega) (by simpa using a)
  have hu' := h2.2 i (by omega) (by simpa using a)
  refine ⟨b, off, us[i]'(by omega), hp, hbl, ?_, hc, by rw [← Nat.add_assoc] at hc'; exact hc', by rw [← Nat.add_assoc] at hc''; exact hc'', ?_⟩
  · intro b2 o2 m2 c2 e2
    rcases hu.2 with ⟨e0, _⟩ | ⟨g9, c9, _, e0, _, hg9, _⟩
    · rw [e2] at e0; cases e0
    · rw [e2] at e0
      cases e0
      have := (Array.getElem?_eq_some_iff.1 hg9).1
      omega
  · have := OwnB.bools hu' (by simpa using hb _ (List.getElem_mem a))
    simpa using this
theorem OwnNe.neeL {w : World} {B : Nat} {v : Value} {ns : List Nee} (h : OwnNe w B v ns) (hl : ns.length ≤ 8) (hb : ∀ n ∈ ns, n.inn.length ≤ 2147483648) : NeeL w v ns :=
  (h.neeO hl hb h (fun _us a b => ⟨a, b⟩) (Nat.le_refl _)).neeL
/-- a need is put behind the row, within a drawn region -/
theorem appNeK {w : World} {o : Oper} {a : Act} {K : Act → World → Prop} {Q : Exit → Act → World → Prop} (s x : Operand)
    (ho : o.op = .call { callee := .builtin .append, args := #[s, x], argTypes := #[179, 179] }) (base : Nat) (v : Value) (ns : List Nee) (hs : a.eval s = v)
    (hown : OwnNe w base v ns) (n : Nee) (u : Value) (hu : OwnB w base u n.inn) (hbase : base ≤ w.heap.size)
    (p : Option Addr) (c : Nat) (hx : a.eval x = .slice p 1 c) (hat : At w p [.int .i64 n.ix, .int .i64 n.kd, u]) (hlen : ns.length ≤ 1000000)
    (h : ∀ v' w', OwnNe w' base v' (ns ++ [n]) → w.grownBy w' v.ownBlock → (∀ k, v.ownBlock = some k → base ≤ k) → K (a.put o.dst v') w') : o.wp Tryz.prog a w K Q := by
  obtain ⟨i0, hi, hz0, hz1, hz2⟩ := info_parts infoNe
  obtain ⟨us, hrow, hr⟩ := hown
  have hone : ∀ z ∈ [Value.int .i64 n.ix, .int .i64 n.kd, u], z.oneCell' = true := by
    intro z hz
    simp at hz
    rcases hz with rfl | rfl | rfl
    · rfl
    · rfl
    · obtain ⟨p, c, e, _⟩ := At.of_own hu
      rw [e]; rfl
  refine wp_append_at s x _ ho _ i0 _ 3 40 Tryz.underlying179 hi hz0 hz1 hz2 rfl (by decide) base v _ _ hs hrow p 1 c [.int .i64 n.ix, .int .i64 n.kd, u] hx (by simp) hat hone (by unfold maxLen; omega) (by omega) hbase ?_
  intro v' w' h1 h2 h3
  refine h v' w' ⟨us ++ [u], ?_, ?_⟩ h2 h3
  · rw [neCells_snoc _ _ _ _ (by rw [hr.1, List.length_map]), List.length_append]
    exact h1
  · rw [List.map_append, List.map_cons, List.map_nil]
    have hoff : ∀ i, v.ownBlock = some i → ¬ blk us i := fun i hv ⟨j, hj, e⟩ => type_ne hrow (hr.2 j hj (by have := hr.1; omega)) tyNeB hv e
    refine RowsB.snoc ?_ (hr.touch (Touch.grown h2) (fun i hb e => hoff i e.symm hb))
    exact hu.touch (Touch.grown h2) (fun i hi e => type_ne hrow hu tyNeB e.symm hi)
theorem stepNe {w : World} {ops : Array Oper} {o : Oper} {a : Act} {K : Act → World → Prop} {Q : Exit → Act → World → Prop} {E : Prop} (hgd : o.guard = none) (s x : Operand)
    (ho : o.op = .call { callee := .builtin .append, args := #[s, x], argTypes := #[179, 179] }) (base : Nat) (v : Value) (ns : List Nee) (hs : a.eval s = v)
    (hown : OwnNe w base v ns) (n : Nee) (u : Value) (hu : OwnB w base u n.inn) (hbase : base ≤ w.heap.size)
    (p : Option Addr) (c : Nat) (hx : a.eval x = .slice p 1 c) (hat : At w p [.int .i64 n.ix, .int .i64 n.kd, u]) (hlen : ns.length ≤ 1000000)
    (h : ∀ v' w', OwnNe w' base v' (ns ++ [n]) → w.grownBy w' v.ownBlock → (∀ k, v.ownBlock = some k → base ≤ k) → K (a.put o.dst v') w') : if Region.wanted o (yielded ops a.tmps) = true then Oper.wp Tryz.prog o a w K Q else E := by
  rw [if_pos (by simp [Region.wanted, hgd])]
  exact appNeK s x ho base v ns hs hown n u hu hbase p c hx hat hlen h
theorem At.lit3v (w : World) (a b u : Value) (E : TypeId) : At (w.alloc (.cells #[a, b, u] E)) (some ⟨w.heap.size, 0, none⟩) [a, b, u] := by
  intro j hj
  match j, hj with
  | 0, _ => exact ⟨_, _, rfl, by simp⟩
  | 1, _ => exact ⟨_, _, rfl, by simp⟩
  | 2, _ => exact ⟨_, _, rfl, by simp⟩
/-! ### the box -/
def BoxT (w : World) (r : Nat) (c0 c1 c2 c3 c4 c5 : Value) : Prop := w.ownsRow r 181 6 (.slice (some ⟨r, 0, none⟩) 1 1) 1 [c0, c1, c2, c3, c4, c5]
section
variable {w w' : World} {r : Nat} {c0 c1 c2 c3 c4 c5 : Value}
theorem BoxT.cell0 (h : BoxT w r c0 c1 c2 c3 c4 c5) : w.cell? ⟨r, 0, none⟩ = some c0 := by rw [World.ownsRow.cellAt h 0 (by omega)]; rfl
theorem BoxT.cell1 (h : BoxT w r c0 c1 c2 c3 c4 c5) : w.cell? ⟨r, 1, none⟩ = some c1 := by rw [World.ownsRow.cellAt h 1 (by omega)]; rfl
theorem BoxT.cell2 (h : BoxT w r c0 c1 c2 c3 c4 c5) : w.cell? ⟨r, 2, none⟩ = some c2 := by rw [World.ownsRow.cellAt h 2 (by omega)]; rfl
theorem BoxT.cell3 (h : BoxT w r c0 c1 c2 c3 c4 c5) : w.cell? ⟨r, 3, none⟩ = some c3 := by rw [World.ownsRow.cellAt h 3 (by omega)]; rfl
theorem BoxT.cell4 (h : BoxT w r c0 c1 c2 c3 c4 c5) : w.cell? ⟨r, 4, none⟩ = some c4 := by rw [World.ownsRow.cellAt h 4 (by omega)]; rfl
theorem BoxT.cell5 (h : BoxT w r c0 c1 c2 c3 c4 c5) : w.cell? ⟨r, 5, none⟩ = some c5 := by rw [World.ownsRow.cellAt h 5 (by omega)]; rfl
theorem BoxT.froz (h : BoxT w r c0 c1 c2 c3 c4 c5) (i : Nat) : w.frozen? ⟨r, i, none⟩ = false := World.ownsRow.frozenAt h i
theorem BoxT.lt (h : BoxT w r c0 c1 c2 c3 c4 c5) : r < w.heap.size := (World.ownsRow.lt h r rfl).2
theorem BoxT.set2 (h : BoxT w r c0 c1 c2 c3 c4 c5) (x : Value) : BoxT (w.setCell ⟨r, 2, none⟩ x) r c0 c1 x c3 c4 c5 := (World.ownsRow.stored h 2 x).1
theorem BoxT.set3 (h : BoxT w r c0 c1 c2 c3 c4 c5) (x : Value) : BoxT (w.setCell ⟨r, 3, none⟩ x) r c0 c1 c2 x c4 c5 := (World.ownsRow.stored h 3 x).1
theorem BoxT.set4 (h : BoxT w r c0 c1 c2 c3 c4 c5) (x : Value) : BoxT (w.setCell ⟨r, 4, none⟩ x) r c0 c1 c2 c3 x c5 := (World.ownsRow.stored h 4 x).1
theorem BoxT.set5 (h : BoxT w r c0 c1 c2 c3 c4 c5) (x : Value) : BoxT (w.setCell ⟨r, 5, none⟩ x) r c0 c1 c2 c3 c4 x := (World.ownsRow.stored h 5 x).1
theorem BoxT.grown (h : BoxT w r c0 c1 c2 c3 c4 c5) (i : Nat) (x : Value) : w.grownBy (w.setCell ⟨r, i, none⟩ x) (some r) := (World.ownsRow.stored h i x).2
theorem BoxT.keeps (h : BoxT w r c0 c1 c2 c3 c4 c5) (k : Keeps w w') : BoxT w' r c0 c1 c2 c3 c4 c5 := own_keeps h k
theorem BoxT.other {B s m : Nat} {T : TypeId} {u : Value} {cs : List Value} {S : Nat → Prop} (h : BoxT w r c0 c1 c2 c3 c4 c5) (ho : w.ownsRow B T s u m cs) (t : T ≠ 181) (hS : ∀ i, S i → u.ownBlock = some i) (k : Touch w w' S) : BoxT w' r c0 c1 c2 c3 c4 c5 :=
  own_touch h k (fun i e hi => type_ne ho h t (hS i hi) e)
theorem BoxT.made (w : World) (c0 c1 c2 c3 c4 c5 : Value) : BoxT (w.alloc (.cells #[c0, c1, c2, c3, c4, c5] 181)) w.heap.size c0 c1 c2 c3 c4 c5 := by
  have h := World.ownsRow_lit (base := w.heap.size) (e := 181) (size := 6) w #[c0, c1, c2, c3, c4, c5] 1 (Nat.le_refl _) (by simp [maxLen]) (by simp)
  simpa [BoxT] using h
/-- a row of another type is not the box's -/
theorem BoxT.off {B s m : Nat} {T : TypeId} {u : Value} {cs : List Value} (h : BoxT w r c0 c1 c2 c3 c4 c5) (ho : w.ownsRow B T s u m cs) (t : 181 ≠ T) : ∀ i, u.ownBlock = some i → ¬ i = r := fun i e hi => by
  subst hi
  exact type_ne h ho t rfl e
end
/-- elementary parts with their texts stay where only the box is written -/
theorem OwnE.touch {w w' : World} {B : Nat} {v : Value} {ss : List ByteArray} {xs : List (List Nd)} {S : Nat → Prop} (h : OwnE w B v ss xs) (k : Touch w w' S) (hS : ∀ i, S i → w.heap.size ≤ i ∨ ∃ r T s c0, w.ownsRow r T s (.slice (some ⟨i, 0, none⟩) 1 1) 1 c0 ∧ T ≠ 183 ∧ T ≠ 145) : OwnE w' B v ss xs := by
  obtain ⟨us, h1, h2, h3⟩ := h
  refine ⟨us, own_touch h1 k (fun i e hi => ?_), h2.touch k (fun i hb hi => ?_), h3⟩
  · have hl := (World.ownsRow.lt h1 i e).2
    rcases hS i hi with h0 | ⟨r, T, s, c0, ho, t1, _⟩
    · omega
    · exact type_ne ho h1 t1 rfl e
  · have hl := (h2.lt hb).2
    rcases hS i hi with h0 | ⟨r, T, s, c0, ho, _, t2⟩
    · omega
    · obtain ⟨j, hj, e⟩ := hb
      exact type_ne ho (h2.2 j hj (by have := h2.1; omega)) t2 rfl e
end Go.Proofs.YtgnlfceloiilbaaGreat
/- Names of logics, both sides. -/
namespace Go.Proofs.YtgnlfceloiilbaaGreat
open Go.RowKit
def names8 : List ByteArray := [lgS 0, lgS 1, lgS 2, lgS 3, lgS 4, lgS 5, lgS 6, lgS 7]
open scoped Classical in
noncomputable def isLg (s : ByteArray) : Bool := decide (s ∈ names8)
theorem isLg_of {s : ByteArray} (h : isLg s = true) : ∃ L, L < 8 ∧ s = lgS L := by
  unfold isLg at h
  have h := @of_decide_eq_true _ (Classical.propDecidable _) h
  simp only [names8, List.mem_cons, List.not_mem_nil, or_false] at h
  rcases h with h | h | h | h | h | h | h | h
  · exact ⟨0, by omega, h⟩
  · exact ⟨1, by omega, h⟩
  · exact ⟨2, by omega, h⟩
  · exact ⟨3, by omega, h⟩
  · exact ⟨4, by omega, h⟩
  · exact ⟨5, by omega, h⟩
  · exact ⟨6, by omega, h⟩
  · exact ⟨7, by omega, h⟩
theorem isLg_lgS (L : Nat) (h : L < 8) : isLg (lgS L) = true := by
  unfold isLg
  apply @decide_eq_true _ (Classical.propDecidable _)
  have h8 : L = 0 ∨ L = 1 ∨ L = 2 ∨ L = 3 ∨ L = 4 ∨ L = 5 ∨ L = 6 ∨ L = 7 := by omega
  rcases h8 with rfl | rfl | rfl | rfl | rfl | rfl | rfl | rfl <;> simp [names8]
--
set_option maxHeartbeats 1000000 in
theorem indexT_any (ss : List ByteArray) (x : ByteArray) (v : Value) (w : World) (hv : Strs w v ss) :
    Calls Tryz.prog 254 #[v, .string x] w fun e w' => e = .returned (.int .i64 (idxOf (fun y => x.toList == y.toList) ss 0)) ∧ w = w' := by
  have hv0 := hv
  obtain ⟨p, cap, rfl, hle, hmx, hlen⟩ := hv.shape
  unfold maxLen at hmx
  have HV := hid hv0; clear hv hv0
  have HD := hid (fun k (h : k < ss.length) => idxOf_drop (fun y : ByteArray => x.toList == y.toList) ss k h)
  have HE := hid (idxOf_end (fun y : ByteArray => x.toList == y.toList) ss ss.length (Nat.le_refl _))
  generalize hpr : (fun y : ByteArray => x.toList == y.toList) = pr at *
  have HPR : Hid (∀ y, (x.toList == y.toList) = pr y) := hid (fun y => by rw [← hpr])
  clear hpr
  go_enter Tryz.func254, Tryz.ntmps254
  go_wp2_with fail
  go_loopw [4, 8] (fun o i' wr => ∃ k : Nat, k ≤ ss.length ∧ i' = .int .i64 k ∧ o = .int .i64 0 ∧ idxOf pr ss 0 = idxOf pr (ss.drop k) k ∧ w = wr) (fun _ i' _ => ss.length - (intOf i').toNat)
  case atStart => exact ⟨0, by omega, rfl, rfl, by simp, rfl⟩
  case round =>
    obtain ⟨k, hk, rfl, rfl, hs, rfl⟩ := hrel
    have Hs := hid hs; clear hs
    by_cases hlt : k < ss.length
    · have hlt' : (k : Int) < ss.length := by omega
      obtain ⟨b1, o1, rfl, h1⟩ := HV.out.get k hlt
      have HDk := hid (HD.out k hlt)
      have HQ := hid (HPR.out ss[k])
      generalize ss[k] = y at *
      cases he : pr y
      · have he2 : (x.toList == y.toList) = false := by rw [HQ.out, he]
        have HN : Hid (idxOf pr (ss.drop k) k = idxOf pr (ss.drop (k + 1)) (k + 1)) := hid (by have := HDk.out; rw [he2] at this; exact this)
        clear he
        go_wp2_with fail
        go_roundw
        case rel => exact ⟨k + 1, by omega, by go_num, rfl, by rw [Hs.out, HN.out], by trivial⟩
        case measure => simp [intOf]; omega
      · have he2 : (x.toList == y.toList) = true := by rw [HQ.out, he]
        have HN : Hid (idxOf pr (ss.drop k) k = (k : Int)) := hid (by have := HDk.out; rw [he2] at this; exact this)
        clear he
        go_wp2_with fail
        go_ret
        exact ⟨ret_int (by rw [Hs.out, HN.out]), rfl⟩
    · obtain rfl : k = ss.length := by omega
      have hlt' : ¬ ((ss.length : Nat) : Int) < ss.length := by omega
      go_wp2
      go_ret
      exact ⟨ret_int (by rw [Hs.out, HE.out]), rfl⟩
open scoped Classical in
theorem containsT_any (ss : List ByteArray) (x : ByteArray) (v : Value) (w : World) (hv : Strs w v ss) :
    Calls Tryz.prog 170 #[v, .string x] w fun e w' => e = .returned (.bool (decide (x ∈ ss))) ∧ w = w' := by
  have HI := hid (indexT_any ss x v w hv)
  have hd : decide (x ∈ ss) = decide (idxOf (fun y : ByteArray => x.toList == y.toList) ss 0 ≥ 0) := by
    rw [idxOf_any, Bool.eq_iff_iff, decide_eq_true_eq, List.any_eq_true]
    constructor
    · intro h; exact ⟨x, h, by simp⟩
    · rintro ⟨y, hy, e⟩
      rw [beq_bts, decide_eq_true_eq] at e
      rw [bts_inj e]; exact hy
  rw [hd]
  generalize idxOf (fun y : ByteArray => x.toList == y.toList) ss 0 = j at *
  clear hv hd
  go_enter Tryz.func170, Tryz.ntmps170
  go_wp2_with fail
  refine HI.out.mono ?_; rintro e w2 ⟨rfl, rfl⟩
  go_wp2_with fail
  go_ret
  exact ⟨ret_bool rfl, rfl⟩
--
theorem searchLogics_any (w : World) : Calls Tryz.prog 231 #[] w fun e w' => ∃ v, e = .returned v ∧ OwnS w' w.heap.size v names8 ∧ Keeps w w' := by
  have HO : Hid (OwnS (w.alloc (.cells #[.string ⟨#[75]⟩, .string ⟨#[68]⟩, .string ⟨#[84]⟩, .string ⟨#[75, 52]⟩, .string ⟨#[83, 52]⟩, .string ⟨#[71, 76]⟩, .string ⟨#[83, 53]⟩, .string ⟨#[75, 66]⟩] 9)) w.heap.size (.slice (some ⟨w.heap.size, 0, none⟩) 8 8) names8) := hid (by
    have h := World.ownsRow_lit (base := w.heap.size) (e := 9) (size := 1) w #[.string ⟨#[75]⟩, .string ⟨#[68]⟩, .string ⟨#[84]⟩, .string ⟨#[75, 52]⟩, .string ⟨#[83, 52]⟩, .string ⟨#[71, 76]⟩, .string ⟨#[83, 53]⟩, .string ⟨#[75, 66]⟩] 8 (Nat.le_refl _) (by simp [maxLen]) (by simp)
    exact h)
  go_enter Tryz.func231, Tryz.ntmps231
  go_wp2
  go_ret
  exact ⟨_, rfl, HO.out, (Keeps.refl w).alloc _⟩
--
theorem isSearchLogic_any (s : ByteArray) (w : World) : Calls Tryz.prog 141 #[.string s] w fun e w' => e = .returned (.bool (isLg s)) ∧ Keeps w w' := by
  have HS := hid (searchLogics_any w)
  have HC := hid (fun v wz (h : Strs wz v names8) => containsT_any names8 s v wz h)
  have HL : Hid (isLg s = @decide (s ∈ names8) (Classical.propDecidable _)) := hid (by unfold isLg; rfl)
  go_enter Tryz.func141, Tryz.ntmps141
  go_wp2_with fail
  refine HS.out.mono ?_; rintro e w2 ⟨v2, rfl, hv2, k2⟩
  have HCC := hid (HC.out v2 w2 (hv2.strs (by simp [names8])))
  go_wp2_with fail
  refine HCC.out.mono ?_; rintro e w3 ⟨rfl, rfl⟩
  go_wp2_with fail
  go_ret
  exact ⟨ret_bool (by rw [HL.out]), k2⟩
--
theorem beq_str (x y : ByteArray) : (x.toList == y.toList) = decide (bts x = bts y) := beq_bts x y
open scoped Classical in
set_option maxHeartbeats 1000000 in
theorem l01Says_any (ss : List ByteArray) (x : ByteArray) (v : Value) (w : World) (hv : Strs w v ss) :
    Calls Tryz.prog 90 #[v, .string x] w fun e w' => e = .returned (.bool (decide (x ∈ ss))) ∧ w = w' := by
  have hv0 := hv
  obtain ⟨p, cap, rfl, hle, hmx, hlen⟩ := hv.shape
  unfold maxLen at hmx
  have HV := hid hv0; clear hv hv0
  have HY := hid (fun i (h : i < ss.length) (e : (ss[i].toList == x.toList) = true) => show decide (x ∈ ss) = true from decide_eq_true (by
    rw [beq_bts, decide_eq_true_eq] at e
    rw [← bts_inj e]
    exact List.getElem_mem h))
  have HN := hid (fun (h : ∀ j (hj : j < ss.length), (ss[j].toList == x.toList) = false) => show decide (x ∈ ss) = false from decide_eq_false (fun hm => by
    obtain ⟨j, hj, e⟩ := List.getElem_of_mem hm
    have := h j hj
    rw [e, beq_bts] at this
    simp at this))
  generalize decide (x ∈ ss) = b at *
  go_enter Tryz.func90, Tryz.ntmps90
  go_wp2_with fail
  go_loopw [4, 5] (fun o i' wr => ∃ i : Nat, i ≤ ss.length ∧ i' = .int .i64 i ∧ o = .bool false ∧ (∀ j (hj : j < ss.length), j < i → (ss[j].toList == x.toList) = false) ∧ w = wr) (fun _ i' _ => ss.length - (intOf i').toNat)
  case atStart => exact ⟨0, by omega, rfl, rfl, fun j hj h => by omega, rfl⟩
  case round =>
    obtain ⟨i, hi, rfl, rfl, hall, rfl⟩ := hrel
    have HA := hid hall; clear hall
    by_cases hlt : i < ss.length
    · have hlt' : (i : Int) < ss.length := by omega
      obtain ⟨b1, o1, rfl, h1⟩ := HV.out.get i hlt
      have HYi := hid (HY.out i hlt)
      have HNi : Hid ((ss[i].toList == x.toList) = false → ∀ j (hj : j < ss.length), j < i + 1 → (ss[j].toList == x.toList) = false) := hid (fun h j hj hji => by
        by_cases e : j = i
        · subst e; exact h
        · exact HA.out j hj (by omega))
      generalize ss[i] = y at *
      cases he : y.toList == x.toList
      · rw [he] at HNi
        go_wp2_with fail
        go_roundw
        case rel => exact ⟨i + 1, by omega, by go_num, rfl, HNi.out (by trivial), by trivial⟩
        case measure => simp [intOf]; omega
      · rw [he] at HYi
        go_wp2_with fail
        go_ret
        exact ⟨ret_bool (by rw [HYi.out (by trivial)]), rfl⟩
    · have hlt' : ¬ (i : Int) < ss.length := by omega
      have HB := hid (HN.out (fun j hj => HA.out j hj (by omega)))
      obtain rfl : i = ss.length := by omega
      go_wp2_with fail
      go_ret
      exact ⟨ret_bool (by rw [HB.out]), rfl⟩
def names7 : List ByteArray := [lgS 0, lgS 1, lgS 2, lgS 3, lgS 4, lgS 5, lgS 6]
--
open scoped Classical in
theorem isSequentLogic_any (s : ByteArray) (w : World) : Calls Tryz.prog 83 #[.string s] w fun e w' => e = .returned (.bool (decide (s ∈ names7))) ∧ Keeps w w' := by
  have HS : Hid (Strs (w.alloc (.cells #[.string ⟨#[75]⟩, .string ⟨#[68]⟩, .string ⟨#[84]⟩, .string ⟨#[75, 52]⟩, .string ⟨#[83, 52]⟩, .string ⟨#[71, 76]⟩, .string ⟨#[83, 53]⟩] 9)) (.slice (some ⟨w.heap.size, 0, none⟩) 7 7) names7) := hid (Strs.lit (w := w) names7 (by simp [names7]))
  have HC := hid (l01Says_any names7 s _ _ HS.out)
  have kA := (Keeps.refl w).alloc (.cells #[.string ⟨#[75]⟩, .string ⟨#[68]⟩, .string ⟨#[84]⟩, .string ⟨#[75, 52]⟩, .string ⟨#[83, 52]⟩, .string ⟨#[71, 76]⟩, .string ⟨#[83, 53]⟩] 9)
  go_enter Tryz.func83, Tryz.ntmps83
  go_wp2_with fail
  refine HC.out.mono ?_; rintro e w3 ⟨rfl, rfl⟩
  go_wp2_with fail
  go_ret
  exact ⟨rfl, kA⟩
--
open scoped Classical in
theorem isLg_eq (s : ByteArray) : isLg s = ((s.toList == [75, 66]) || decide (s ∈ names7)) := by
  have e1 : (s.toList == [75, 66]) = decide (s = lgS 7) := by
    have h := beq_bts s (lgS 7)
    rw [show (lgS 7).toList = [75, 66] by simp [lgS, go_sem]] at h
    rw [h, Bool.eq_iff_iff, decide_eq_true_eq, decide_eq_true_eq]
    exact ⟨bts_inj, fun e => by rw [e]⟩
  rw [e1]
  unfold isLg
  rw [Bool.eq_iff_iff, Bool.or_eq_true, decide_eq_true_eq, decide_eq_true_eq, decide_eq_true_eq]
  simp only [names8, names7, List.mem_cons, List.not_mem_nil, or_false]
  constructor
  · rintro (h | h | h | h | h | h | h | h) <;> simp [h]
  · rintro (h | h | h | h | h | h | h | h) <;> simp [h]
theorem l12Is_any (s : ByteArray) (w : World) : Calls Tryz.prog 131 #[.string s] w fun e w' => e = .returned (.bool (isLg s)) ∧ Keeps w w' := by
  have HS := hid (isSequentLogic_any s w)
  rw [isLg_eq s]
  generalize @decide (s ∈ names7) (Classical.propDecidable _) = b at *
  cases hb : s.toList == [75, 66]
  · go_enter Tryz.func131, Tryz.ntmps131
    go_wp2_with fail
    refine HS.out.mono ?_; rintro e w2 ⟨rfl, k2⟩
    go_wp2_with fail
    go_ret
    exact ⟨rfl, k2⟩
  · go_enter Tryz.func131, Tryz.ntmps131
    go_wp2_with fail
    go_ret
    exact ⟨rfl, Keeps.refl _⟩
end Go.Proofs.YtgnlfceloiilbaaGreat
/- What a type makes true, program side. -/
namespace Go.Proofs.YtgnlfceloiilbaaGreat
open Go.RowKit
--
set_option maxRecDepth 20000 in
set_option maxHeartbeats 4000000 in
theorem valueIn_any (E : List Fm) (ss : List ByteArray) (h8 : E.length ≤ 8) (m : Nat) (hm : m < 256) (r : Nat) (pv : Value) (t : Fm) :
    ∀ (v : Value) (w : World), (∀ x ∈ subs t, isEl x = true → x ∈ E) → Nds w v t.enc → w.cell? ⟨r, 1, none⟩ = some pv → ElL w pv ss (E.map Fm.enc) →
    Calls Tryz.prog 146 #[.pointer (some ⟨r, 0, none⟩), v, .int .i64 m] w fun e w' => e = .returned (.bool (valB E m t)) ∧ Keeps w w' := by
  induction t with
  | var i => intro v w hs hv hc hp; exact valueIn_el E ss h8 m hm (.var i) (.inl rfl) (hs _ (subs_self _) rfl) v w r pv hv hc hp
  | box a _ => intro v w hs hv hc hp; exact valueIn_el E ss h8 m hm (.box a) (.inr (.inl rfl)) (hs _ (subs_self _) rfl) v w r pv hv hc hp
  | dia a _ => intro v w hs hv hc hp; exact valueIn_el E ss h8 m hm (.dia a) (.inr (.inr rfl)) (hs _ (subs_self _) rfl) v w r pv hv hc hp
  | fls =>
    intro v w hs hv hc1 hp
    obtain ⟨b, off, n, cap, rfl, h0, h1, h2, h3, hc, -⟩ := hv.root
    have kA := (Keeps.refl w).alloc (.cells #[.slice (some ⟨b, off, none⟩) n cap] 73)
    have hcA := kA.cell hc
    rw [show Fm.fls.kind = 1 from rfl] at hcA
    unfold maxLen at h2
    clear hs hp hv hc1 hc
    go_enter Tryz.func146, Tryz.ntmps146
    go_wp2_with fail
    go_ret
    exact ⟨rfl, kA⟩
  | and x y ihx ihy =>
    intro v w hs hv hc1 hp
    have HX := hid (fun vz wz (kz : Keeps w wz) (hz : Nds wz vz x.enc) => ihx vz wz (fun a ha => hs a (by simp [subs, ha])) hz (kz.cell hc1) (hp.keeps kz))
    have HY := hid (fun vz wz (kz : Keeps w wz) (hz : Nds wz vz y.enc) => ihy vz wz (fun a ha => hs a (by simp [subs, ha])) hz (kz.cell hc1) (hp.keeps kz))
    have hv0 := hv
    obtain ⟨b, off, n, cap, rfl, h0, h1, h2, h3, hc, -⟩ := hv.root
    have kA := (Keeps.refl w).alloc (.cells #[.slice (some ⟨b, off, none⟩) n cap] 73)
    have c0 : (w.alloc (.cells #[.slice (some ⟨b, off, none⟩) n cap] 73)).cell? ⟨w.heap.size, 0, none⟩ = some (.slice (some ⟨b, off, none⟩) n cap) := by simp
    have hcA := kA.cell hc
    rw [show (Fm.and x y).kind = 2 from rfl] at hcA
    have hvA := hv0.keeps kA
    unfold maxLen at h2
    clear hs hp hv hc1 hc hv0 ihx ihy
    go_enter Tryz.func146, Tryz.ntmps146
    go_wp2_with fail
    refine (first_any _ _ x y.enc _ _ hvA rfl).mono ?_; rintro e w' ⟨v1, rfl, hv1, rfl⟩
    go_wp2_with fail
    refine (HX.out v1 _ kA hv1).mono ?_; rintro e w2 ⟨rfl, k2⟩
    have c2 := k2.cell c0
    cases hbx : valB E m x
    · go_wp2_with fail
      go_ret
      exact ⟨ret_bool (by simp [valB, hbx]), kA.trans k2⟩
    · go_wp2_with fail
      refine (second_any _ _ x y _ _ (hvA.keeps k2) rfl).mono ?_; rintro e w' ⟨v3, rfl, hv3, rfl⟩
      go_wp2_with fail
      refine (HY.out v3 _ (kA.trans k2) hv3).mono ?_; rintro e w4 ⟨rfl, k4⟩
      go_wp2_with fail
      go_ret
      exact ⟨ret_bool (by simp [valB, hbx]), (kA.trans k2).trans k4⟩
  | or x y ihx ihy =>
    intro v w hs hv hc1 hp
    have HX := hid (fun vz wz (kz : Keeps w wz) (hz : Nds wz vz x.enc) => ihx vz wz (fun a ha => hs a (by simp [subs, ha])) hz (kz.cell hc1) (hp.keeps kz))
    have HY := hid (fun vz wz (kz : Keeps w wz) (hz : Nds wz vz y.enc) => ihy vz wz (fun a ha => hs a (by simp [subs, ha])) hz (kz.cell hc1) (hp.keeps kz))
    have hv0 := hv
    obtain ⟨b, off, n, cap, rfl, h0, h1, h2, h3, hc, -⟩ := hv.root
    have kA := (Keeps.refl w).alloc (.cells #[.slice (some ⟨b, off, none⟩) n cap] 73)
    have c0 : (w.alloc (.cells #[.slice (some ⟨b, off, none⟩) n cap] 73)).cell? ⟨w.heap.size, 0, none⟩ = some (.slice (some ⟨b, off, none⟩) n cap) := by simp
    have hcA := kA.cell hc
    rw [show (Fm.or x y).kind = 3 from rfl] at hcA
    have hvA := hv0.keeps kA
    unfold maxLen at h2
    clear hs hp hv hc1 hc hv0 ihx ihy
    go_enter Tryz.func146, Tryz.ntmps146
    go_wp2_with fail
    refine (first_any _ _ x y.enc _ _ hvA rfl).mono ?_; rintro e w' ⟨v1, rfl, hv1, rfl⟩
    go_wp2_with fail
    refine (HX.out v1 _ kA hv1).mono ?_; rintro e w2 ⟨rfl, k2⟩
    have c2 := k2.cell c0
    cases hbx : valB E m x
    · go_wp2_with fail
      refine (second_any _ _ x y _ _ (hvA.keeps k2) rfl).mono ?_; rintro e w' ⟨v3, rfl, hv3, rfl⟩
      go_wp2_with fail
      refine (HY.out v3 _ (kA.trans k2) hv3).mono ?_; rintro e w4 ⟨rfl, k4⟩
      go_wp2_with fail
      go_ret
      exact ⟨ret_bool (by simp [valB, hbx]), (kA.trans k2).trans k4⟩
    · go_wp2_with fail
      go_ret
      exact ⟨ret_bool (by simp [valB, hbx]), kA.trans k2⟩
  | imp x y ihx ihy =>
    intro v w hs hv hc1 hp
    have HX := hid (fun vz wz (kz : Keeps w wz) (hz : Nds wz vz x.enc) => ihx vz wz (fun a ha => hs a (by simp [subs, ha])) hz (kz.cell hc1) (hp.keeps kz))
    have HY := hid (fun vz wz (kz : Keeps w wz) (hz : Nds wz vz y.enc) => ihy vz wz (fun a ha => hs a (by simp [subs, ha])) hz (kz.cell hc1) (hp.keeps kz))
    have hv0 := hv
    obtain ⟨b, off, n, cap, rfl, h0, h1, h2, h3, hc, -⟩ := hv.root
    have kA := (Keeps.refl w).alloc (.cells #[.slice (some ⟨b, off, none⟩) n cap] 73)
    have c0 : (w.alloc (.cells #[.slice (some ⟨b, off, none⟩) n cap] 73)).cell? ⟨w.heap.size, 0, none⟩ = some (.slice (some ⟨b, off, none⟩) n cap) := by simp
    have hcA := kA.cell hc
    rw [show (Fm.imp x y).kind = 4 from rfl] at hcA
    have hvA := hv0.keeps kA
    unfold maxLen at h2
    clear hs hp hv hc1 hc hv0 ihx ihy
    go_enter Tryz.func146, Tryz.ntmps146
    go_wp2_with fail
    refine (first_any _ _ x y.enc _ _ hvA rfl).mono ?_; rintro e w' ⟨v1, rfl, hv1, rfl⟩
    go_wp2_with fail
    refine (HX.out v1 _ kA hv1).mono ?_; rintro e w2 ⟨rfl, k2⟩
    have c2 := k2.cell c0
    cases hbx : valB E m x
    · go_wp2_with fail
      go_ret
      exact ⟨ret_bool (by simp [valB, hbx]), kA.trans k2⟩
    · go_wp2_with fail
      refine (second_any _ _ x y _ _ (hvA.keeps k2) rfl).mono ?_; rintro e w' ⟨v3, rfl, hv3, rfl⟩
      go_wp2_with fail
      refine (HY.out v3 _ (kA.trans k2) hv3).mono ?_; rintro e w4 ⟨rfl, k4⟩
      go_wp2_with fail
      go_ret
      exact ⟨ret_bool (by simp [valB, hbx]), (kA.trans k2).trans k4⟩
end Go.Proofs.YtgnlfceloiilbaaGreat
