/- Walks: the laws' sizes and copies of lists of node lists and of rules. -/
import Derived.Test.YtpbbfoliabgkpaaGreatGL5
import Derived.Test.YtpbbfoliabgkpaaGreatGM3
import Derived.Test.YtpbbfoliabgkpaaGreatGSC
import Derived.Test.YtpbbfoliabgkpaaGreatGY9
import Derived.Deep.RegionHeld3
import Derived.Test.YtpbbfoliabgkpaaGreatGVB
namespace Go.Proofs.YtpbbfoliabgkpaaGreat
open Go.RowKit
/-- a list of lists whose lengths are known -/
def LenL (w : World) (v : Value) (ns : List Nat) : Prop := SlC 1 (fun _ f (n : Nat) => ∃ p cap, f 0 = .slice p n cap ∧ n ≤ maxLen) w v ns
theorem LenL.keeps {w w' : World} {v : Value} {ns : List Nat} (h : LenL w v ns) (k : Keeps w w') : LenL w' v ns := SlC.keeps (fun _ _ _ _ _ h => h) h k
theorem NdsL.lens {w : World} {v : Value} {xs : List (List Nd)} (h : NdsL w v xs) : LenL w v (xs.map List.length) := by
  obtain ⟨p, cap, hv, h1, h2, h3, h4⟩ := h
  refine ⟨p, cap, by simpa using hv, by simpa using h1, h2, by simpa using h3, fun i hi => ?_⟩
  obtain ⟨b, off, f, hp, hc, hr⟩ := h4 i (by simpa using hi)
  refine ⟨b, off, f, hp, hc, ?_⟩
  obtain ⟨p', cap', e, h5, h6, _⟩ := hr
  exact ⟨p', cap', by simpa using e, by simp; omega⟩
def szF : Int → List Nat → Int
  | l, [] => l
  | l, n :: ns => if l < n then -1 else szF (l - n) ns
def sumN : List Nat → Nat
  | [] => 0
  | n :: ns => n + sumN ns
theorem szF_eq (ns : List Nat) : ∀ l : Int, 0 ≤ l → szF l ns = if l < sumN ns then -1 else l - sumN ns := by
  induction ns with
  | nil => intro l h; simp [szF, sumN]; omega
  | cons n ns ih =>
    intro l h
    have e : (sumN (n :: ns) : Int) = n + sumN ns := by simp [sumN]
    rw [e]
    simp only [szF]
    split
    · rw [if_pos (by omega)]
    · rw [ih _ (by omega)]
      split
      · rw [if_pos (by omega)]
      · rw [if_neg (by omega)]; omega
theorem sumN_tot (xs : List (List Nd)) : sumN (xs.map List.length) = tot xs := by
  induction xs with
  | nil => rfl
  | cons x xs ih => simp [sumN, tot, ih]
--
theorem OwnL.touched {w w' : World} {S : Nat → Prop} {B : Nat} {v : Value} {xs : List (List Nd)} (h : OwnL w B v xs) (k : Touch w w' S) (hS : ∀ i, B ≤ i → ¬ S i) : OwnL w' B v xs := by
  obtain ⟨vs, ho, hr, ha, hf⟩ := h
  exact ⟨vs, own_touch ho k (fun i e => hS i (World.ownsRow.lt ho i e).1), hr.touch k (fun i e => hS i (hr.lt e).1), ha, hf⟩
theorem OwnL.setBelow {w : World} {B : Nat} {v : Value} {xs : List (List Nd)} (h : OwnL w B v xs) {b o : Nat} (hb : b < B) (x : Value) : OwnL (w.setCell ⟨b, o, none⟩ x) B v xs :=
  h.touched (Touch.grown (grown_set b o x)) (fun i hi e => by cases e; omega)
theorem OwnR.of {w0 w : World} {B : Nat} {v u : Value} {xs : List (List Nd)} {c : List Nd} (h : OwnL w0 B v xs) (k : Keeps w0 w) (hu : OwnN w w0.heap.size u c) (hB : B ≤ w0.heap.size) : OwnR w B v u xs c := by
  obtain ⟨vs, ho, hr, ha, hf⟩ := h
  have hlt := fun k hk => (World.ownsRow.lt ho k hk).2
  refine ⟨vs, own_keeps ho k, RowsN.cons (hu.mono hB) (hr.keeps k), Apart.cons (Off.of_blk fun k hk hb => ?_) ha, fun i hi k hk => ?_⟩
  · have := (hu.len k hk).1; have := (hr.lt hb).2; omega
  · cases i with
    | zero => intro e; have := (hu.len k e).1; have := hlt k hk; omega
    | succ i => exact hf i (by simpa using hi) k hk
end Go.Proofs.YtpbbfoliabgkpaaGreat
/- The image of a rule (program side). -/
namespace Go.Proofs.YtpbbfoliabgkpaaGreat
open Go.RowKit
--
set_option maxRecDepth 20000 in
set_option maxHeartbeats 2000000 in
theorem imageOf_any (xs : List (List Nd)) (c : List Nd) (ims : List (List Nd)) (v u vi : Value) (w : World) (hv : NdsL w v xs) (hu : Nds w u c) (hvi : NdsL w vi ims) (ha : ∀ a ∈ xs ++ [c], a.all okNd = true) (h6 : ims.length = 6)
    (hl : ∀ a ∈ xs ++ [c], (sub ims a).length ≤ 100000) (hll : xs.length ≤ 1000) :
    Calls Tryz.prog 78 #[.agg #[v, u], vi] w fun e w' => ∃ v' u', e = .returned (.agg #[v', u']) ∧ OwnR w' w.heap.size v' u' (xs.map (sub ims)) (sub ims c) ∧ Keeps w w' := by
  obtain ⟨p1, n1, q1, rfl⟩ := agg_shape hv
  obtain ⟨p2, n2, q2, rfl⟩ := hu.shape
  obtain ⟨p3, n3, q3, rfl⟩ := agg_shape hvi
  have kA := (((Keeps.refl w).alloc (.cells #[.slice p1 n1 q1, .slice p2 n2 q2] 37)).alloc (.cells #[.slice none 0 0, .slice none 0 0] 37)).drew
  have pa : ((w.alloc (.cells #[.slice p1 n1 q1, .slice p2 n2 q2] 37)).alloc (.cells #[.slice none 0 0, .slice none 0 0] 37)).drew.cell? ⟨w.heap.size, 0, none⟩ = some (.slice p1 n1 q1) := by show (World.alloc _ _).cell? _ = _; rw [World.cell?_alloc_lt (h := by simp)]; simp
  have pb : ((w.alloc (.cells #[.slice p1 n1 q1, .slice p2 n2 q2] 37)).alloc (.cells #[.slice none 0 0, .slice none 0 0] 37)).drew.cell? ⟨w.heap.size, 1, none⟩ = some (.slice p2 n2 q2) := by show (World.alloc _ _).cell? _ = _; rw [World.cell?_alloc_lt (h := by simp)]; simp
  have HC := hid (composed_any ims xs _ _ _ (hv.keeps kA) (hvi.keeps kA) (fun a h => ha a (List.mem_append.2 (.inl h))) h6 (fun a h => hl a (List.mem_append.2 (.inl h))) hll)
  have HS := hid (fun w2 (k : Keeps w w2) => substitute_any ims c _ _ w2 (hu.keeps k) (hvi.keeps k) (ha c (by simp)) h6 (by have := hl c (by simp); omega))
  clear hv hu hvi ha hl h6
  go_enter Tryz.func78, Tryz.ntmps78
  go_wp2_with fail
  go_region_held3 (fun w' => w'.cell? ⟨w.heap.size, 0, none⟩ = some (.slice p1 n1 q1) ∧ w'.cell? ⟨w.heap.size, 1, none⟩ = some (.slice p2 n2 q2)) (first | exact ⟨pa, pb⟩ | exact ⟨qa, qb⟩ | exact ⟨ra, rb⟩ | (constructor <;> (rw [World.cell?_setCell_far _ _ _ _ (by simp), World.cell?_setCell_far _ _ _ _ (by simp)]; first | exact ra | exact rb))) (first
    | (go_at_call 176; refine HC.out.mono ?_; rintro e w2 ⟨v2, rfl, hv2, k2⟩; have qa := k2.cell pa; have qb := k2.cell pb; obtain ⟨p4, n4, q4, rfl⟩ : ∃ p n c, v2 = .slice p n c := (by obtain ⟨vs, ho, _⟩ := hv2; obtain ⟨p, c, e, _⟩ := At.of_own ho; exact ⟨p, _, c, e⟩))
    | (go_at_call 108; refine (HS.out w2 (kA.trans k2)).mono ?_; rintro e w3 ⟨v3, rfl, hv3, k3⟩; have ra := k3.cell qa; have rb := k3.cell qb; obtain ⟨p5, n5, q5, rfl⟩ : ∃ p n c, v3 = .slice p n c := (by obtain ⟨p, c, e, _⟩ := At.of_own hv3; exact ⟨p, _, c, e⟩); obtain ⟨hc3, hf3⟩ := (k2.trans k3).both))
  have hR := OwnR.of hv2 k3 hv3 k2.size
  go_wp2
  refine bodyPost_ret (v := .agg #[.slice p4 n4 q4, .slice p5 n5 q5]) (by simp [results, Tryz.results78, go_sem, hc3]) rfl ?_
  exact ⟨_, _, rfl, ((hR.setBelow (by simp) _).setBelow (by simp) _).mono (by simp; omega), ((kA.trans (k2.trans k3)).setCell (by simp) _).setCell (by simp) _⟩
end Go.Proofs.YtpbbfoliabgkpaaGreat
/- BreaksRule: both sides answer alike. -/
namespace Go.Proofs.YtpbbfoliabgkpaaGreat
open Go.RowKit
/-- all premises are theorems, the conclusion is none -/
noncomputable def brk (G : List Fm) (t : Fm) : Bool := (G.all fun a => sqB [] a) && !sqB [] t
theorem trees_sub {ims : List (List Nd)} (hs : isSub ims = true) (hp : allPlainL ims = false) : ∀ G : List Fm, OkL G → ∃ G', (G.map Fm.enc).map (sub ims) = G'.map Fm.enc ∧ OkL G'
  | [], _ => ⟨[], rfl, okL_nil⟩
  | a :: G, h => by
    obtain ⟨G', h1, h2⟩ := trees_sub hs hp G (fun x hx => h x (by simp [hx]))
    obtain ⟨u, h3, h4⟩ := sub_fm hs hp a (h a (by simp))
    refine ⟨u :: G', by simp only [List.map_cons, h3, h1], fun x hx => ?_⟩
    rcases List.mem_cons.1 hx with rfl | hx
    · exact h4
    · exact h2 x hx
set_option maxRecDepth 20000 in
set_option maxHeartbeats 1000000 in
theorem l31Breaks_any (G : List Fm) (t : Fm) (hG : OkL G) (ht : OkF t) (hl : ∀ a ∈ G ++ [t], a.enc.length ≤ 20) (hn : G.length ≤ 1000) (v : Value) (w : World) (hv : FsL w v (G ++ [t])) :
    Calls Tryz.prog 87 #[v] w fun e w' => e = .returned (.bool (brk G t)) ∧ Keeps w w' := by
  obtain ⟨p, n, cap, rfl⟩ := NdsL.shapeL hv
  obtain ⟨hm, hmc, hmx⟩ := FsL.len hv
  unfold maxLen at hmx
  have hm2 : n = G.length + 1 := by rw [hm]; simp
  have hn1 : n ≤ 1001 := by omega
  have hn0 : 0 < n := by omega
  have HM := hid hm2; clear hm hm2
  have HV := hid hv; clear hv
  have hok : ∀ a ∈ G ++ [t], OkF a := fun a ha => (List.mem_append.1 ha).elim (hG a) (fun h => by rw [List.mem_singleton.1 h]; exact ht)
  go_enter Tryz.func87, Tryz.ntmps87
  go_wp2
  go_loopw [3] (fun i' wr => ∃ k : Nat, k < n ∧ i' = .int .i64 k ∧ Keeps w wr ∧ Hid ((G.take k).all (fun a => sqB [] a) = true)) (fun i _ => n - (intOf i).toNat)
  case atStart => exact ⟨0, hn0, rfl, Keeps.refl _, by simp [Hid]⟩
  case round =>
    obtain ⟨k, hk, rfl, kw, hall⟩ := hrel
    by_cases hlt : k + 1 < n
    · have hlt' : (k : Int) + 1 < n := by omega
      have hkG : k < G.length := by have := HM.out; omega
      have hkL : k < (G ++ [t]).length := by simp; omega
      obtain ⟨b, off, u1, rfl, hc, hu1⟩ := (HV.out.keeps kw).get k hkL
      have hge : (G ++ [t])[k] = G[k] := List.getElem_append_left hkG
      have HT := hid (l31Theorem_any _ (hok _ (List.getElem_mem hkL)) (hl _ (List.getElem_mem hkL)) u1 wr hu1)
      rw [hge] at HT
      have hsucc := hid (show G.take (k + 1) = G.take k ++ [G[k]] from List.take_succ_eq_append_getElem hkG)
      have hbr := hid (fun (h : sqB [] G[k] = false) => (show brk G t = false by
        unfold brk
        rw [show (G.all fun a => sqB [] a) = false from List.all_eq_false.2 ⟨G[k], List.getElem_mem hkG, by simp [h]⟩]; rfl))
      obtain ⟨pu, nu, cu, rfl⟩ := hu1.shape
      clear hu1 hge
      cases hs : sqB [] G[k] with
      | true =>
        rw [hs] at HT
        have Hs := hid hs; clear hs
        go_wp2_with fail
        refine HT.out.mono ?_; rintro e w2 ⟨rfl, k2⟩
        go_wp2
        go_roundw
        case rel => exact ⟨k + 1, by omega, by go_num, kw.trans k2, hid (by rw [hsucc.out, List.all_append, hall.out]; simp [Hs.out])⟩
        case measure => simp [intOf]; omega
      | false =>
        rw [hs] at HT
        have Hb := hid (hbr.out hs); clear hs
        go_wp2_with fail
        refine HT.out.mono ?_; rintro e w2 ⟨rfl, k2⟩
        go_wp2
        go_ret
        exact ⟨ret_bool Hb.out.symm, kw.trans k2⟩
    · have hkG : k = G.length := by have := HM.out; omega
      have hlt' : ¬ ((k : Int) + 1 < n) := by omega
      have hkL : n - 1 < (G ++ [t]).length := by have := HM.out; simp; omega
      obtain ⟨b, off, u1, rfl, hc, hu1⟩ := (HV.out.keeps kw).get (n - 1) hkL
      have hge : (G ++ [t])[n - 1] = t := by
        have : n - 1 = G.length := by have := HM.out; omega
        simp [this]
      rw [hge] at hu1
      have HT := hid (l31Theorem_any t ht (hl t (by simp)) u1 wr hu1)
      have hbr := hid (show brk G t = !sqB [] t by
        have h1 := hall.out
        rw [hkG, List.take_length] at h1
        unfold brk
        rw [h1]; rfl)
      obtain ⟨pu, nu, cu, rfl⟩ := hu1.shape
      have hidx : ((n : Int) - 1) = ((n - 1 : Nat) : Int) := by omega
      have hidx2 : ((n : Int) - 1).toNat = n - 1 := by omega
      clear hu1 hge hkG
      go_wp2_with fail
      refine HT.out.mono ?_; rintro e w2 ⟨rfl, k2⟩
      go_wp2
      go_ret
      exact ⟨ret_bool hbr.out.symm, kw.trans k2⟩
open scoped Classical in
/-- what is asked of nodes, as what is asked of their formula -/
noncomputable def prN (L : List Fm) (f : Fm → Bool) (x : List Nd) : Bool := decide (∃ a, a ∈ L ∧ x = a.enc ∧ f a = true)
theorem prN_eq {L : List Fm} (f : Fm → Bool) {a : Fm} (ha : a ∈ L) : prN L f a.enc = f a := by
  unfold prN
  rw [Bool.eq_iff_iff, decide_eq_true_iff]
  constructor
  · rintro ⟨b, _, h1, h2⟩
    rw [enc_inj h1]
    exact h2
  · exact fun h => ⟨a, ha, rfl, h⟩
theorem any_prN (L : List Fm) (f : Fm → Bool) : (L.map Fm.enc).any (prN L f) = L.any f := by
  rw [Bool.eq_iff_iff, List.any_eq_true, List.any_eq_true]
  constructor
  · rintro ⟨x, hx, hp⟩
    obtain ⟨a, ha, rfl⟩ := List.mem_map.1 hx
    exact ⟨a, ha, by rw [← prN_eq f ha]; exact hp⟩
  · rintro ⟨a, ha, hp⟩
    exact ⟨a.enc, List.mem_map.2 ⟨a, ha, rfl⟩, by rw [prN_eq f ha]; exact hp⟩
theorem enters_isBroken_1 : Enters 178 := fun _ _ => by kernel_rfl
set_option maxRecDepth 20000 in
theorem isBroken_1_any (a : Fm) (ha : OkF a) (hl : a.enc.length ≤ 20) (u : Value) (w : World) (hu : Nds w u a.enc) :
    Calls Tryz.prog 178 #[u] w fun e w' => e = .returned (.bool (!sqB [] a)) ∧ Keeps w w' := by
  have HT := hid (isTheorem_any a ha hl u w hu)
  clear hu
  go_enter Tryz.func178, Tryz.ntmps178
  go_wp2_with fail
  refine HT.out.mono ?_; rintro e w2 ⟨rfl, k2⟩
  go_wp2_with fail
  go_ret
  exact ⟨rfl, k2⟩
set_option maxRecDepth 20000 in
set_option maxHeartbeats 1000000 in
theorem isBroken_any (G : List Fm) (t : Fm) (hG : OkL G) (ht : OkF t) (hl : ∀ a ∈ G ++ [t], a.enc.length ≤ 20) (v u : Value) (w : World) (hv : FsL w v G) (hu : Nds w u t.enc) :
    Calls Tryz.prog 81 #[.agg #[v, u]] w fun e w' => e = .returned (.bool (brk G t)) ∧ Keeps w w' := by
  obtain ⟨p1, n1, q1, rfl⟩ := NdsL.shapeL hv
  obtain ⟨p2, n2, q2, rfl⟩ := hu.shape
  have kA := (Keeps.refl w).alloc (.cells #[.slice p1 n1 q1, .slice p2 n2 q2] 37)
  have pa : (w.alloc (.cells #[.slice p1 n1 q1, .slice p2 n2 q2] 37)).cell? ⟨w.heap.size, 0, none⟩ = some (.slice p1 n1 q1) := by simp
  have pb : (w.alloc (.cells #[.slice p1 n1 q1, .slice p2 n2 q2] 37)).cell? ⟨w.heap.size, 1, none⟩ = some (.slice p2 n2 q2) := by simp
  have hC := containsFuncL (prN G fun a => !sqB [] a) 178 #[] (G.map Fm.enc) _ _ (NdsL.keeps hv kA) enters_isBroken_1 (fun x u1 w1 hx _ hu1 => by
    obtain ⟨a, ha, rfl⟩ := List.mem_map.1 hx
    rw [prN_eq _ ha]
    exact isBroken_1_any a (hG a ha) (hl a (List.mem_append.2 (.inl ha))) u1 w1 hu1)
  rw [any_prN] at hC
  have HT := hid (fun w2 (k : Keeps w w2) => isTheorem_any t ht (hl t (by simp)) _ w2 (hu.keeps k))
  have hb : brk G t = (!(G.any fun a => !sqB [] a) && !sqB [] t) := by
    unfold brk
    congr 1
    rw [Bool.eq_iff_iff]
    simp [List.all_eq_true, List.any_eq_false]
  rw [hb]
  clear hb hv hu
  cases hs : (G.any fun a => !sqB [] a) with
  | true =>
    rw [hs] at hC
    have HC := hid hC
    clear hs
    go_enter Tryz.func81, Tryz.ntmps81
    go_wp2_with fail
    refine HC.out.mono ?_; rintro e w2 ⟨rfl, k2⟩
    go_wp2_with fail
    go_ret
    exact ⟨by simp, kA.trans k2⟩
  | false =>
    rw [hs] at hC
    have HC := hid hC
    clear hs
    go_enter Tryz.func81, Tryz.ntmps81
    go_wp2_with fail
    refine HC.out.mono ?_; rintro e w2 ⟨rfl, k2⟩
    obtain ⟨qa, qb⟩ := cells_keeps k2 (And.intro pa pb)
    go_wp2_with fail
    refine (HT.out w2 (kA.trans k2)).mono ?_; rintro e w3 ⟨rfl, k3⟩
    go_wp2_with fail
    go_ret
    exact ⟨by simp, (kA.trans k2).trans k3⟩
/-- both sides answer b and k -/
def BothRL (S I : FuncId) (xs : List (List Nd)) (c : List Nd) (l : List (List Nd)) (b : Bool) (k : Int) : Prop :=
  (∀ (v u vi : Value) (w : World), NdsL w v xs → Nds w u c → NdsL w vi l → Calls Tryz.prog S #[.agg #[v, u], vi] w (fun e w' => e = .returned (.tuple #[.bool b, .int .i64 k]) ∧ Keeps w w')) ∧
  (∀ (v u vi : Value) (w : World), NdsL w v xs → Nds w u c → NdsL w vi l → Calls Tryz.prog I #[.agg #[v, u], vi] w (fun e w' => e = .returned (.tuple #[.bool b, .int .i64 k]) ∧ Keeps w w'))
set_option maxRecDepth 20000 in
set_option maxHeartbeats 1000000 in
theorem breaks_err (xs : List (List Nd)) (c : List Nd) (ims : List (List Nd)) (h : imgErr (ruleErr xs c) ims ≠ 0) : BothRL 17 16 xs c ims false (imgErr (ruleErr xs c) ims) := by
  have h' : (imgErr (ruleErr xs c) ims != 0) = true := by simp [h]
  have H := hid h; clear h
  have HR := hid (ruleErr_range xs c)
  refine ⟨fun v u vi w hv hu hvi => ?_, fun v u vi w hv hu hvi => ?_⟩
  · obtain ⟨p1, n1, q1, rfl⟩ := NdsL.shapeL hv
    obtain ⟨p2, n2, q2, rfl⟩ := hu.shape
    obtain ⟨p3, n3, q3, rfl⟩ := NdsL.shapeL hvi
    have kA := (Keeps.refl w).alloc (.cells #[.slice p1 n1 q1, .slice p2 n2 q2] 37)
    have HC := hid (l31Code_any xs c _ _ _ (hv.keeps kA) (hu.keeps kA))
    have HI := hid (fun w2 (k : Keeps w w2) => l31Images_any ims _ w2 (hvi.keeps k))
    clear hv hu hvi
    go_enter Tryz.func17, Tryz.ntmps17
    go_wp2_with fail
    refine HC.out.mono ?_; rintro e w2 ⟨rfl, k2⟩
    go_wp2_with fail
    refine (HI.out w2 (kA.trans k2)).mono ?_; rintro e w3 ⟨rfl, rfl⟩
    go_wp2_with fail
    refine (l31Both_any (ruleErr xs c) ims _ HR.out).mono ?_; rintro e w3 ⟨rfl, rfl⟩
    go_wp2_with fail
    go_ret2
    exact ⟨rfl, kA.trans k2⟩
  · obtain ⟨p1, n1, q1, rfl⟩ := NdsL.shapeL hv
    obtain ⟨p2, n2, q2, rfl⟩ := hu.shape
    obtain ⟨p3, n3, q3, rfl⟩ := NdsL.shapeL hvi
    have kA := (Keeps.refl w).alloc (.cells #[.slice p1 n1 q1, .slice p2 n2 q2] 37)
    have HC := hid (ruleCode_nil xs c _ _ _ (hv.keeps kA) (hu.keeps kA))
    have HI := hid (fun w2 (k : Keeps w w2) => imagesCode_any (ruleErr xs c) ims _ w2 (hvi.keeps k))
    clear hv hu hvi
    go_enter Tryz.func16, Tryz.ntmps16
    go_wp2_with fail
    refine HC.out.mono ?_; rintro e w2 ⟨rfl, k2⟩
    go_wp2_with fail
    refine (HI.out w2 (kA.trans k2)).mono ?_; rintro e w3 ⟨rfl, k3⟩
    go_wp2_with fail
    go_ret2
    exact ⟨rfl, (kA.trans k2).trans k3⟩
set_option maxRecDepth 20000 in
set_option maxHeartbeats 2000000 in
theorem breaks_ok (xs : List (List Nd)) (c : List Nd) (ims : List (List Nd)) (h : imgErr (ruleErr xs c) ims = 0) (G : List Fm) (t : Fm) (hG : OkL G) (ht : OkF t) (hGe : xs.map (sub ims) = G.map Fm.enc) (hte : sub ims c = t.enc) :
    BothRL 17 16 xs c ims (if ((G ++ [t]).any fun a => decide (20 < a.enc.length)) then false else brk G t) (if ((G ++ [t]).any fun a => decide (20 < a.enc.length)) then 3 else 0) := by
  obtain ⟨hr0, hs0, _⟩ := imgErr_zero h
  obtain ⟨hx6, hall⟩ := ruleErr_zero hr0
  obtain ⟨h6, hi40⟩ := isSub_facts hs0
  have hsl : ∀ a ∈ xs ++ [c], (sub ims a).length ≤ 1600 := fun a ha => by
    have h1 := sub_len hi40 (by omega) a
    have h2 := (hall a ha).2
    have h3 : 40 * a.length ≤ 40 * 40 := Nat.mul_le_mul_left _ h2
    omega
  have hGn : G.length = xs.length := by have := congrArg List.length hGe; simpa using this.symm
  have hGl : ∀ a ∈ G ++ [t], a.enc.length ≤ 1600 := fun a ha => by
    rcases List.mem_append.1 ha with ha | ha
    · have h1 : a.enc ∈ G.map Fm.enc := List.mem_map.2 ⟨a, ha, rfl⟩
      rw [← hGe] at h1
      obtain ⟨x, hx, e⟩ := List.mem_map.1 h1
      rw [← e]; exact hsl x (List.mem_append.2 (.inl hx))
    · rw [List.mem_singleton.1 ha, ← hte]; exact hsl c (by simp)
  have himg : (xs ++ [c]).map (sub ims) = (G ++ [t]).map Fm.enc := by simp [hGe, hte]
  have hmost : mostL ((G ++ [t]).map Fm.enc) ≤ 20 ↔ ((G ++ [t]).any fun a => decide (20 < a.enc.length)) = false := by
    rw [mostL_le, List.any_eq_false]
    constructor
    · intro h a ha
      have := h a.enc (List.mem_map.2 ⟨a, ha, rfl⟩)
      simp; omega
    · intro h x hx
      obtain ⟨a, ha, rfl⟩ := List.mem_map.1 hx
      have := h a ha
      simp at this; omega
  have hmost2 : mostL ((G ++ [t]).map Fm.enc) ≤ 1600 := (mostL_le _ _).2 fun x hx => by
    obtain ⟨a, ha, rfl⟩ := List.mem_map.1 hx
    exact hGl a ha
  have hany : (((G ++ [t]).map Fm.enc).any fun x => decide (20 < x.length)) = ((G ++ [t]).any fun a => decide (20 < a.enc.length)) := by rw [List.any_map]; rfl
  refine ⟨fun v u vi w hv hu hvi => ?_, fun v u vi w hv hu hvi => ?_⟩
  · obtain ⟨p1, n1, q1, rfl⟩ := NdsL.shapeL hv
    obtain ⟨p2, n2, q2, rfl⟩ := hu.shape
    obtain ⟨p3, n3, q3, rfl⟩ := NdsL.shapeL hvi
    have kA := (Keeps.refl w).alloc (.cells #[.slice p1 n1 q1, .slice p2 n2 q2] 37)
    have pa : (w.alloc (.cells #[.slice p1 n1 q1, .slice p2 n2 q2] 37)).cell? ⟨w.heap.size, 0, none⟩ = some (.slice p1 n1 q1) := by simp
    have pb : (w.alloc (.cells #[.slice p1 n1 q1, .slice p2 n2 q2] 37)).cell? ⟨w.heap.size, 1, none⟩ = some (.slice p2 n2 q2) := by simp
    have hC := l31Code_any xs c _ _ _ (hv.keeps kA) (hu.keeps kA)
    rw [hr0] at hC
    have hB := fun w2 => l31Both_any 0 ims w2 (.inl rfl)
    rw [hr0] at h
    rw [h] at hB
    have HC := hid hC
    have HB := hid hB
    have HI := hid (fun w2 (k : Keeps w w2) => l31Images_any ims _ w2 (hvi.keeps k))
    have HO := hid (fun w2 (k : Keeps w w2) => l31Of_any xs c _ _ w2 (hv.keeps k) (hu.keeps k) (by omega))
    have hX := fun vl w2 (k : Keeps w w2) (hl : NdsL w2 vl (xs ++ [c])) => l31Image_any ims (xs ++ [c]) vl _ w2 hl (hvi.keeps k) (fun a ha => (hall a ha).1) h6 (fun a ha => by have := hsl a ha; omega) (by simp; omega)
    rw [himg] at hX
    have HX := hid hX
    have hn7 : (xs ++ [c]).length ≤ 2147483648 := by simp; omega
    have htG : tot ((G ++ [t]).map Fm.enc) ≤ 1600 * ((G ++ [t]).map Fm.enc).length := tot_most _ 1600 (fun x hx => by obtain ⟨a, ha, rfl⟩ := List.mem_map.1 hx; exact hGl a ha)
    have htG2 : tot ((G ++ [t]).map Fm.enc) ≤ 2147483648 ∧ ((G ++ [t]).map Fm.enc).length ≤ 2147483648 := by simp at htG ⊢; omega
    clear hv hu hvi hC hB hX
    cases hbig : ((G ++ [t]).any fun a => decide (20 < a.enc.length)) with
    | true =>
      have hm20 : ¬ mostL ((G ++ [t]).map Fm.enc) ≤ 20 := fun h => by rw [hmost.1 h] at hbig; cases hbig
      have hb2 : (20 : Int) < (mostL ((G ++ [t]).map Fm.enc) : Nat) := by omega
      simp only [if_true]
      generalize mostL ((G ++ [t]).map Fm.enc) = mm at *
      clear hbig hmost hany himg
      go_enter Tryz.func17, Tryz.ntmps17
      go_wp2_with fail
      refine HC.out.mono ?_; rintro e w2 ⟨rfl, k2⟩
      obtain ⟨qa, qb⟩ := cells_keeps k2 (And.intro pa pb)
      go_wp2_with fail
      refine (HI.out w2 (kA.trans k2)).mono ?_; rintro e w3 ⟨rfl, rfl⟩
      go_wp2_with fail
      refine (HB.out w2).mono ?_; rintro e w3 ⟨rfl, rfl⟩
      go_wp2_with fail
      refine (HO.out w2 (kA.trans k2)).mono ?_; rintro e w3 ⟨v3, rfl, hv3, k3⟩
      have hL := hv3.ndsL k3 hn7
      go_wp2_with fail
      refine (HX.out _ w3 ((kA.trans k2).trans k3) hL).mono ?_; rintro e w4 ⟨v4, rfl, hv4, k4⟩
      go_wp2_with fail
      go_ret2
      exact ⟨rfl, ((kA.trans k2).trans k3).trans k4⟩
    | false =>
      have hm20 : mostL ((G ++ [t]).map Fm.enc) ≤ 20 := hmost.2 hbig
      have hb2 : ¬ (20 : Int) < (mostL ((G ++ [t]).map Fm.enc) : Nat) := by omega
      have hl20 : ∀ a ∈ G ++ [t], a.enc.length ≤ 20 := fun a ha => (mostL_le _ _).1 hm20 a.enc (List.mem_map.2 ⟨a, ha, rfl⟩)
      have HBr := hid (fun v w2 (hv : FsL w2 v (G ++ [t])) => l31Breaks_any G t hG ht hl20 (by omega) v w2 hv)
      simp only [Bool.false_eq_true, if_false]
      generalize mostL ((G ++ [t]).map Fm.enc) = mm at *
      clear hbig hmost hany himg
      go_enter Tryz.func17, Tryz.ntmps17
      go_wp2_with fail
      refine HC.out.mono ?_; rintro e w2 ⟨rfl, k2⟩
      obtain ⟨qa, qb⟩ := cells_keeps k2 (And.intro pa pb)
      go_wp2_with fail
      refine (HI.out w2 (kA.trans k2)).mono ?_; rintro e w3 ⟨rfl, rfl⟩
      go_wp2_with fail
      refine (HB.out w2).mono ?_; rintro e w3 ⟨rfl, rfl⟩
      go_wp2_with fail
      refine (HO.out w2 (kA.trans k2)).mono ?_; rintro e w3 ⟨v3, rfl, hv3, k3⟩
      have hL := hv3.ndsL k3 hn7
      go_wp2_with fail
      refine (HX.out _ w3 ((kA.trans k2).trans k3) hL).mono ?_; rintro e w4 ⟨v4, rfl, hv4, k4⟩
      have hL4 : FsL w4 v4 (G ++ [t]) := hv4.ndsL htG2.2 htG2.1
      go_wp2_with fail
      refine (HBr.out _ w4 hL4).mono ?_; rintro e w5 ⟨rfl, k5⟩
      go_wp2_with fail
      go_ret2
      exact ⟨rfl, (((kA.trans k2).trans k3).trans k4).trans k5⟩
  · obtain ⟨p1, n1, q1, rfl⟩ := NdsL.shapeL hv
    obtain ⟨p2, n2, q2, rfl⟩ := hu.shape
    obtain ⟨p3, n3, q3, rfl⟩ := NdsL.shapeL hvi
    have kA := (Keeps.refl w).alloc (.cells #[.slice p1 n1 q1, .slice p2 n2 q2] 37)
    have pa : (w.alloc (.cells #[.slice p1 n1 q1, .slice p2 n2 q2] 37)).cell? ⟨w.heap.size, 0, none⟩ = some (.slice p1 n1 q1) := by simp
    have pb : (w.alloc (.cells #[.slice p1 n1 q1, .slice p2 n2 q2] 37)).cell? ⟨w.heap.size, 1, none⟩ = some (.slice p2 n2 q2) := by simp
    have hC := ruleCode_nil xs c _ _ _ (hv.keeps kA) (hu.keeps kA)
    rw [hr0] at hC
    have hI := fun w2 (k : Keeps w w2) => imagesCode_any 0 ims _ w2 (hvi.keeps k)
    rw [hr0] at h
    rw [h] at hI
    have hX := fun w2 (k : Keeps w w2) => imageOf_any xs c ims _ _ _ w2 (hv.keeps k) (hu.keeps k) (hvi.keeps k) (fun a ha => (hall a ha).1) h6 (fun a ha => by have := hsl a ha; omega) (by omega)
    rw [hGe, hte] at hX
    have HC := hid hC
    have HI := hid hI
    have HX := hid hX
    have htG : tot (G.map Fm.enc) ≤ 1600 * (G.map Fm.enc).length := tot_most _ 1600 (fun x hx => by obtain ⟨a, ha, rfl⟩ := List.mem_map.1 hx; exact hGl a (List.mem_append.2 (.inl ha)))
    have htG2 : tot (G.map Fm.enc) ≤ 2147483648 ∧ (G.map Fm.enc).length ≤ 2147483648 := by simp at htG ⊢; omega
    have htl := hGl t (by simp)
    have HF := hid (fun v u w2 (h1 : NdsL w2 v (G.map Fm.enc)) (h2 : Nds w2 u t.enc) => formulas_any (G.map Fm.enc) t.enc v u w2 h1 h2 (by simp; omega))
    have hS := fun v w2 (h : NdsL w2 v ((G ++ [t]).map Fm.enc)) => haveSmall_any _ v w2 h
    rw [hany] at hS
    have hmap : (G ++ [t]).map Fm.enc = G.map Fm.enc ++ [t.enc] := by simp
    rw [hmap] at hS
    clear hv hu hvi hC hI hX hmost hmost2 himg hany hmap
    cases hbig : ((G ++ [t]).any fun a => decide (20 < a.enc.length)) with
    | true =>
      rw [hbig] at hS
      have HS := hid hS
      simp only [if_true]
      clear hbig hS
      go_enter Tryz.func16, Tryz.ntmps16
      go_wp2_with fail
      refine HC.out.mono ?_; rintro e w2 ⟨rfl, k2⟩
      obtain ⟨qa, qb⟩ := cells_keeps k2 (And.intro pa pb)
      go_wp2_with fail
      refine (HI.out w2 (kA.trans k2)).mono ?_; rintro e w3 ⟨rfl, k3⟩
      obtain ⟨qa3, qb3⟩ := cells_keeps k3 (And.intro qa qb)
      have k03 := (kA.trans k2).trans k3
      go_wp2_with fail
      refine (HX.out w3 k03).mono ?_; rintro e w4 ⟨v4, u4, rfl, hR, k4⟩
      have hL4 := hR.ndsL htG2.2 htG2.1
      have hu4 := hR.nds (by omega)
      obtain ⟨p4, n4, q4, rfl⟩ := NdsL.shapeL hL4
      obtain ⟨p5, n5, q5, rfl⟩ := hu4.shape
      have kl := (Keeps.refl w4).alloc (.cells #[.slice p4 n4 q4, .slice p5 n5 q5] 37)
      have HF4 := hid (HF.out _ _ _ (hL4.keeps kl) (hu4.keeps kl))
      clear hR hL4 hu4
      go_wp2_with fail
      refine HF4.out.mono ?_; rintro e w5 ⟨v5, rfl, hv5, k5⟩
      go_wp2_with fail
      refine (HS.out _ w5 hv5).mono ?_; rintro e w6 ⟨rfl, k6⟩
      go_wp2_with fail
      go_ret2
      exact ⟨rfl, ((k03.trans k4).trans (kl.trans k5)).trans k6⟩
    | false =>
      have hl20 : ∀ a ∈ G ++ [t], a.enc.length ≤ 20 := fun a ha => by
        have := List.any_eq_false.1 hbig a ha
        simp at this; omega
      have HBr := hid (fun v u w2 (h1 : FsL w2 v G) (h2 : Nds w2 u t.enc) => isBroken_any G t hG ht hl20 v u w2 h1 h2)
      rw [hbig] at hS
      have HS := hid hS
      simp only [Bool.false_eq_true, if_false]
      clear hbig hS
      go_enter Tryz.func16, Tryz.ntmps16
      go_wp2_with fail
      refine HC.out.mono ?_; rintro e w2 ⟨rfl, k2⟩
      obtain ⟨qa, qb⟩ := cells_keeps k2 (And.intro pa pb)
      go_wp2_with fail
      refine (HI.out w2 (kA.trans k2)).mono ?_; rintro e w3 ⟨rfl, k3⟩
      obtain ⟨qa3, qb3⟩ := cells_keeps k3 (And.intro qa qb)
      have k03 := (kA.trans k2).trans k3
      go_wp2_with fail
      refine (HX.out w3 k03).mono ?_; rintro e w4 ⟨v4, u4, rfl, hR, k4⟩
      have hL4 := hR.ndsL htG2.2 htG2.1
      have hu4 := hR.nds (by omega)
      obtain ⟨p4, n4, q4, rfl⟩ := NdsL.shapeL hL4
      obtain ⟨p5, n5, q5, rfl⟩ := hu4.shape
      have kl := (Keeps.refl w4).alloc (.cells #[.slice p4 n4 q4, .slice p5 n5 q5] 37)
      have ra : (w4.alloc (.cells #[.slice p4 n4 q4, .slice p5 n5 q5] 37)).cell? ⟨w4.heap.size, 0, none⟩ = some (.slice p4 n4 q4) := by simp
      have rb : (w4.alloc (.cells #[.slice p4 n4 q4, .slice p5 n5 q5] 37)).cell? ⟨w4.heap.size, 1, none⟩ = some (.slice p5 n5 q5) := by simp
      have HF4 := hid (HF.out _ _ _ (hL4.keeps kl) (hu4.keeps kl))
      have HBr4 := hid (fun w2 (k : Keeps w4 w2) => HBr.out _ _ w2 (hL4.keeps k) (hu4.keeps k))
      clear hR hL4 hu4
      go_wp2_with fail
      refine HF4.out.mono ?_; rintro e w5 ⟨v5, rfl, hv5, k5⟩
      go_wp2_with fail
      refine (HS.out _ w5 hv5).mono ?_; rintro e w6 ⟨rfl, k6⟩
      obtain ⟨s1, s2⟩ := cells_keeps (k5.trans k6) (And.intro ra rb)
      go_wp2_with fail
      refine (HBr4.out w6 (kl.trans (k5.trans k6))).mono ?_; rintro e w7 ⟨rfl, k7⟩
      go_wp2_with fail
      go_ret2
      exact ⟨rfl, ((k03.trans k4).trans (kl.trans (k5.trans k6))).trans k7⟩
theorem bothBreaks (xs : List (List Nd)) (c : List Nd) (ims : List (List Nd)) : ∃ b k, BothRL 17 16 xs c ims b k := by
  by_cases h : imgErr (ruleErr xs c) ims = 0
  · obtain ⟨h0, hs, hp⟩ := imgErr_zero h
    have hpe : plainErrs (xs ++ [c]) = 0 := by
      have h1 := h0
      unfold ruleErr at h1
      split at h1
      · omega
      · exact h1
    obtain ⟨G, rfl, hG⟩ := list_trees (l := xs) (fun x hx => plain_each hpe x (List.mem_append.2 (.inl hx)))
    obtain ⟨t, hw, rfl, hpl, _⟩ := plain_tree (plain_each hpe c (by simp))
    obtain ⟨G', h1, h2⟩ := trees_sub hs hp G hG
    obtain ⟨t', h3, h4⟩ := sub_fm hs hp t ⟨hw, hpl⟩
    exact ⟨_, _, breaks_ok _ _ ims h G' t' h2 h4 h1 h3⟩
  · exact ⟨_, _, breaks_err xs c ims h⟩
end Go.Proofs.YtpbbfoliabgkpaaGreat
/- Plain mathematics: behind a Harrop formula a provable disjunction has a provable part; what is provable stays so under substitutions. No program in sight. -/
namespace Go.Proofs.YtpbbfoliabgkpaaGreat
open Fm
/-- no disjunction stands where it is asserted -/
def HarropF : Fm → Prop
  | .var _ => True
  | .fls => True
  | .and a b => HarropF a ∧ HarropF b
  | .or _ _ => False
  | .imp _ b => HarropF b
  | .box _ => False
  | .dia _ => False
section
variable {a b c : Fm}
/-- one countermodel for each formula that does not follow -/
noncomputable def cmM (a : Fm) (x : { x : Fm // ¬ Sq [a] x }) : KM := Classical.choose (not_sq x.2)
noncomputable def cmW (a : Fm) (x : { x : Fm // ¬ Sq [a] x }) : (cmM a x).W := Classical.choose (Classical.choose_spec (not_sq x.2))
theorem cm_spec (a : Fm) (x : { x : Fm // ¬ Sq [a] x }) : (cmM a x).forces (cmW a x) a ∧ ¬ (cmM a x).forces (cmW a x) x.1 := by
  have h := Classical.choose_spec (Classical.choose_spec (not_sq x.2))
  exact ⟨h.1 a (by simp), h.2⟩
/-- all countermodels below one root, where what follows is true -/
noncomputable def root (a : Fm) : KM := glue (cmM a) (cmW a) (fun p => Sq [a] (var p)) (fun i p h => h (cmM a i) (cmW a i) (fun y hy => by rw [List.mem_singleton.1 hy]; exact (cm_spec a i).1))
theorem root_below (a : Fm) (i : { x : Fm // ¬ Sq [a] x }) : (root a).le none (some ⟨i, cmW a i⟩) := (cmM a i).refl _
theorem root_harrop (a : Fm) (hx : ∃ x, ¬ Sq [a] x) : ∀ h : Fm, HarropF h → Sq [a] h → (root a).forces none h := by
  intro h
  induction h with
  | var p => intro _ hs; exact hs
  | fls =>
    intro _ hs
    obtain ⟨x, hx⟩ := hx
    exact (hs (cmM a ⟨x, hx⟩) (cmW a ⟨x, hx⟩) (fun y hy => by rw [List.mem_singleton.1 hy]; exact (cm_spec a ⟨x, hx⟩).1)).elim
  | and x y ihx ihy =>
    intro hh hs
    have h2 := sq_and.1 hs
    exact ⟨ihx hh.1 h2.1, ihy hh.2 h2.2⟩
  | or x y _ _ => intro hh; exact hh.elim
  | imp x y _ ihy =>
    intro hh hs u hu hx
    cases u with
    | none =>
      refine ihy hh ?_
      have hax : Sq [a] x := Classical.byContradiction fun hn => (cm_spec a ⟨x, hn⟩).2 ((glue_some _ _ _ _ x _ _).1 ((root a).up x _ _ (root_below a ⟨x, hn⟩) hx))
      intro M w hw
      exact hs M w hw w (M.refl w) (hax M w hw)
    | some u =>
      obtain ⟨i, u⟩ := u
      have h1 := hs (cmM a i) (cmW a i) (fun y hy => by rw [List.mem_singleton.1 hy]; exact (cm_spec a i).1)
      exact (glue_some _ _ _ _ y i u).2 (h1 u hu ((glue_some _ _ _ _ x i u).1 hx))
  | box x _ => intro hh; exact hh.elim
  | dia x _ => intro hh; exact hh.elim
/-- behind a Harrop formula a provable disjunction has a provable part -/
theorem harrop_or (ha : HarropF a) (h : Sq [a] (or b c)) : Sq [a] b ∨ Sq [a] c := by
  refine Classical.byContradiction fun hn => ?_
  have hb : ¬ Sq [a] b := fun h => hn (.inl h)
  have hc : ¬ Sq [a] c := fun h => hn (.inr h)
  have hr := root_harrop a ⟨b, hb⟩ a ha (sq_mem (by simp))
  rcases h (root a) none (fun y hy => by rw [List.mem_singleton.1 hy]; exact hr) with hx | hx
  · exact (cm_spec a ⟨b, hb⟩).2 ((glue_some _ _ _ _ b _ _).1 ((root a).up b _ _ (root_below a ⟨b, hb⟩) hx))
  · exact (cm_spec a ⟨c, hc⟩).2 ((glue_some _ _ _ _ c _ _).1 ((root a).up c _ _ (root_below a ⟨c, hc⟩) hx))
end
/-! ### substitutions -/
def subF (f : Nat → Fm) : Fm → Fm
  | .var i => f i
  | .fls => .fls
  | .and a b => .and (subF f a) (subF f b)
  | .or a b => .or (subF f a) (subF f b)
  | .imp a b => .imp (subF f a) (subF f b)
  | .box a => .box (subF f a)
  | .dia a => .dia (subF f a)
/-- the model in which a variable is what its image is -/
def pull (M : KM) (f : Nat → Fm) : KM := { M with V := fun w p => M.forces w (f p), mono := fun a b p h hv => M.up (f p) a b h hv }
theorem pull_forces (M : KM) (f : Nat → Fm) : ∀ (a : Fm) (w : M.W), (pull M f).forces w a ↔ M.forces w (subF f a) := by
  intro a
  induction a with
  | var i => intro w; exact Iff.rfl
  | fls => intro w; exact Iff.rfl
  | and a b iha ihb => intro w; exact and_congr (iha w) (ihb w)
  | or a b iha ihb => intro w; exact or_congr (iha w) (ihb w)
  | imp a b iha ihb => intro w; exact forall_congr' fun u => forall_congr' fun _ => imp_congr (iha u) (ihb u)
  | box a _ => intro w; exact Iff.rfl
  | dia a _ => intro w; exact Iff.rfl
/-- what is provable stays so -/
theorem sq_subF {G : List Fm} {c : Fm} (f : Nat → Fm) (h : Sq G c) : Sq (G.map (subF f)) (subF f c) := by
  intro M w hw
  refine (pull_forces M f c w).1 (h (pull M f) w fun a ha => ?_)
  exact (pull_forces M f a w).2 (hw _ (List.mem_map.2 ⟨a, ha, rfl⟩))
end Go.Proofs.YtpbbfoliabgkpaaGreat
