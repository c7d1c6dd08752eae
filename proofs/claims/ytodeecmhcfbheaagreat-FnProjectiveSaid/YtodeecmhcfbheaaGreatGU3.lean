/- Lists of formulas in the reference's decider: equality, membership, additions, what follows at once. -/
import Derived.Test.YtodeecmhcfbheaaGreatGSH
import Derived.Test.YtodeecmhcfbheaaGreatGW2
import Derived.Test.YtodeecmhcfbheaaGreatGPV
import Derived.IntWalk
namespace Go.Proofs.YtodeecmhcfbheaaGreat
open Go.RowKit
/-- a list of formulas -/
def FsL (w : World) (v : Value) (G : List Fm) : Prop := NdsL w v (G.map Fm.enc)
/-- a list with more members, each once -/
def withL {α : Type} [DecidableEq α] (xs : List α) : List α → List α
  | [] => xs
  | y :: ys => if y ∈ xs then withL xs ys else withL (xs ++ [y]) ys
theorem withL_snoc {α : Type} [DecidableEq α] (ys : List α) : ∀ (xs : List α) (y : α), withL xs (ys ++ [y]) = if y ∈ withL xs ys then withL xs ys else withL xs ys ++ [y] := by
  induction ys with
  | nil => intro xs y; by_cases h : y ∈ xs <;> simp [withL, h]
  | cons z ys ih => intro xs y; simp only [List.cons_append, withL]; split <;> exact ih _ _
theorem mem_withL {α : Type} [DecidableEq α] (ys : List α) : ∀ (xs : List α) (z : α), z ∈ withL xs ys ↔ z ∈ ys ∨ z ∈ xs := by
  induction ys with
  | nil => intro xs z; simp [withL]
  | cons y ys ih =>
    intro xs z
    simp only [withL]
    split
    · rename_i h
      rw [ih, List.mem_cons]
      constructor
      · rintro (h1 | h1)
        · exact .inl (.inr h1)
        · exact .inr h1
      · rintro ((rfl | h1) | h1)
        · exact .inr h
        · exact .inl h1
        · exact .inr h1
    · rw [ih, List.mem_cons, List.mem_append, List.mem_singleton]
      constructor
      · rintro (h1 | h1 | h1)
        · exact .inl (.inr h1)
        · exact .inr h1
        · exact .inl (.inl h1)
      · rintro ((h1 | h1) | h1)
        · exact .inr (.inr h1)
        · exact .inl h1
        · exact .inr (.inl h1)
theorem withL_len {α : Type} [DecidableEq α] (ys : List α) : ∀ (xs : List α), (withL xs ys).length ≤ xs.length + ys.length := by
  induction ys with
  | nil => intro xs; simp [withL]
  | cons y ys ih =>
    intro xs; simp only [withL]; split
    · have := ih xs; simp only [List.length_cons]; omega
    · have := ih (xs ++ [y]); simp only [List.length_append, List.length_cons, List.length_nil] at *; omega
theorem wts_withL (ys : List Fm) : ∀ xs : List Fm, wts (withL xs ys) ≤ wts xs + wts ys := by
  induction ys with
  | nil => intro xs; simp [withL, wts]
  | cons y ys ih =>
    intro xs; simp only [withL]; split
    · have := ih xs; simp only [wts]; omega
    · have := ih (xs ++ [y]); rw [wts_append] at this; simp only [wts] at *; omega
theorem withL_enc (ys : List Fm) : ∀ xs : List Fm, withL (xs.map Fm.enc) (ys.map Fm.enc) = (withL xs ys).map Fm.enc := by
  induction ys with
  | nil => intro xs; rfl
  | cons y ys ih =>
    intro xs
    simp only [List.map_cons, withL, enc_mem]
    split
    · exact ih xs
    · have := ih (xs ++ [y]); rw [List.map_append] at this; exact this
--
set_option maxRecDepth 20000 in
set_option maxHeartbeats 1000000 in
theorem l02Equal_any (a b : List Nd) (va vb : Value) (w : World) (hva : Nds w va a) (hvb : Nds w vb b) :
    Calls Tryz.prog 224 #[va, vb] w fun e w' => e = .returned (.bool (decide (a = b))) ∧ Keeps w w' := by
  have hva0 := hva
  have hvb0 := hvb
  obtain ⟨pa, ca, rfl, hlea, hmxa, _, hlena⟩ := hva
  obtain ⟨pb, cb, rfl, hleb, hmxb, _, hlenb⟩ := hvb
  unfold maxLen at hmxa hmxb
  by_cases hl : a.length = b.length
  · have hl' : ((a.length : Int) != (b.length : Int)) = false := by simp [hl]
    have HL := hid hl; clear hl
    go_enter Tryz.func224, Tryz.ntmps224
    go_wp2
    go_loopw [4, 5] (fun r i' wr => ∃ k : Nat, k ≤ a.length ∧ a.take k = b.take k ∧ Keeps w wr ∧ i' = .int .i64 k ∧ r = .bool false) (fun _ i _ => a.length - (intOf i).toNat)
    case atStart => exact ⟨0, by omega, rfl, Keeps.refl w, rfl, rfl⟩
    case round =>
      obtain ⟨k, hk, htk, kw, rfl, rfl⟩ := hrel
      have HT := hid htk; clear htk
      clear hl'
      by_cases hlt : k < a.length
      · have hltb : k < b.length := by have := HL.out; omega
        obtain ⟨_, _, e1, _, _, hata, _⟩ := hva0.keeps kw.drew
        obtain ⟨_, _, e2, _, _, hatb, _⟩ := hvb0.keeps kw.drew
        cases e1; cases e2
        obtain ⟨b1, o1, rfl, h1, h2⟩ := hata.nd k hlt
        obtain ⟨b2, o2, rfl, h3, h4⟩ := hatb.nd k hltb
        clear hata hatb hva0 hvb0
        have hlt' : (k : Int) < a.length := by omega
        have hltb' : (k : Int) < b.length := by omega
        by_cases he : a[k] = b[k]
        · have hk2 : a[k].k = b[k].k := by rw [he]
          have hs2 : a[k].s = b[k].s := by rw [he]
          rw [hk2] at h1
          rw [hs2] at h2
          have HE := hid he; clear he hk2 hs2
          go_wp2_with fail
          go_region
          go_wp2
          go_roundw
          case rel => exact ⟨k + 1, by omega, by rw [List.take_succ_eq_append_getElem hlt, List.take_succ_eq_append_getElem hltb, HT.out, HE.out], kw.drew, by go_num, rfl⟩
          case measure => simp [intOf]; omega
        · have hne : decide (a = b) = false := by rw [decide_eq_false_iff_not]; rintro rfl; exact he rfl
          have HN := hid hne; clear hne
          have hks : ¬ (a[k].k = b[k].k ∧ a[k].s = b[k].s) := fun ⟨g1, g2⟩ => he (by cases hx : a[k]; cases hy : b[k]; simp [hx, hy] at g1 g2; simp [g1, g2])
          clear he
          generalize a[k].k = x1 at *
          generalize a[k].s = x2 at *
          generalize b[k].k = y1 at *
          generalize b[k].s = y2 at *
          by_cases hx : x1 = y1
          · have hx2 : ¬ x2 = y2 := fun e => hks ⟨hx, e⟩
            subst hx
            clear hks
            go_wp2_with fail
            go_region
            go_wp2
            go_ret
            exact ⟨ret_bool HN.out.symm, kw.drew⟩
          · clear hks
            go_wp2_with fail
            go_region
            go_wp2
            go_ret
            exact ⟨ret_bool HN.out.symm, kw.drew⟩
      · go_wp2
        go_ret
        refine ⟨ret_bool ?_, kw⟩
        symm; rw [decide_eq_true_eq]
        have h1 := HL.out; have h2 := HT.out
        rw [List.take_of_length_le (by omega), List.take_of_length_le (by omega)] at h2
        exact h2
  · have hl' : ((a.length : Int) != (b.length : Int)) = true := by simp; omega
    have HL := hid hl; clear hl
    go_enter Tryz.func224, Tryz.ntmps224
    go_wp2
    go_ret
    refine ⟨ret_bool ?_, Keeps.refl _⟩
    symm; rw [decide_eq_false_iff_not]
    rintro rfl; exact HL.out rfl
--
set_option maxRecDepth 20000 in
set_option maxHeartbeats 1000000 in
theorem l23Has_any (xs : List (List Nd)) (x : List Nd) (v u : Value) (w : World) (hv : NdsL w v xs) (hu : Nds w u x) :
    Calls Tryz.prog 221 #[v, u] w fun e w' => e = .returned (.bool (decide (x ∈ xs))) ∧ Keeps w w' := by
  have hv0 := hv
  obtain ⟨p, cap, rfl, hle, hmx, hlm, _⟩ := hv
  obtain ⟨pu, nu, cu, rfl⟩ := hu.shape
  unfold maxLen at hmx
  go_enter Tryz.func221, Tryz.ntmps221
  go_wp2
  go_loopw [4, 5] (fun r i' wr => ∃ k : Nat, k ≤ xs.length ∧ i' = .int .i64 k ∧ r = .bool false ∧ (∀ j (h : j < xs.length), j < k → xs[j] ≠ x) ∧ Keeps w wr) (fun _ i _ => xs.length - (intOf i).toNat)
  case atStart => exact ⟨0, by omega, rfl, rfl, fun j h hj => by omega, Keeps.refl w⟩
  case round =>
    obtain ⟨k, hk, rfl, rfl, hs, kw⟩ := hrel
    have Hs := hid hs; clear hs
    by_cases hlt : k < xs.length
    · obtain ⟨b, off, u1, rfl, hc, hu1⟩ := (hv0.keeps kw).get k hlt
      have hlt' : (k : Int) < xs.length := by omega
      have HE := hid (l02Equal_any xs[k] x u1 _ wr hu1 (hu.keeps kw))
      obtain ⟨p1, n1, q1, rfl⟩ := hu1.shape
      clear hu1 hv0
      by_cases he : xs[k] = x
      · rw [decide_eq_true he] at HE
        have Hm := hid (show x ∈ xs from he ▸ List.getElem_mem hlt)
        clear he
        go_wp2_with fail
        refine HE.out.mono ?_; rintro e w2 ⟨rfl, k2⟩
        go_wp2_with fail
        go_ret
        exact ⟨ret_bool (decide_eq_true Hm.out).symm, kw.trans k2⟩
      · rw [decide_eq_false he] at HE
        have He := hid he; clear he
        go_wp2_with fail
        refine HE.out.mono ?_; rintro e w2 ⟨rfl, k2⟩
        go_wp2_with fail
        go_roundw
        case rel => exact ⟨k + 1, by omega, by go_num, rfl, fun j h hj => by
          by_cases e : j = k
          · subst e; exact He.out
          · exact Hs.out j h (by omega), kw.trans k2⟩
        case measure => simp [intOf]; omega
    · go_wp2
      go_ret
      refine ⟨ret_bool ?_, kw⟩
      symm; rw [decide_eq_false_iff_not]
      intro hm
      obtain ⟨j, hj, e⟩ := List.getElem_of_mem hm
      exact Hs.out j hj (by omega) e
--
set_option maxRecDepth 20000 in
set_option maxHeartbeats 2000000 in
theorem l23With_any (xs ys : List (List Nd)) (v u : Value) (w : World) (hv : NdsL w v xs) (hu : NdsL w u ys) (hl : xs.length + ys.length ≤ 2000000000) :
    Calls Tryz.prog 223 #[v, u] w fun e w' => ∃ v', e = .returned v' ∧ NdsL w' v' (withL xs ys) ∧ Keeps w w' := by
  have hu0 := hu
  obtain ⟨p, n, cap, rfl⟩ := NdsL.shapeL hv
  have hn : n = xs.length := by obtain ⟨_, _, e, _⟩ := hv; cases e; rfl
  obtain ⟨us, hat, hus⟩ := hv.vals
  obtain ⟨pu, cu, rfl, hleu, hmxu, hlmu, _⟩ := hu
  have HN := hid hn; clear hn hv
  unfold maxLen at hmxu
  have k0 := (Keeps.refl w).alloc (.cells #[] 24)
  have hE := ShL.empty (w0 := w) w (Nat.le_refl _)
  go_enter Tryz.func223, Tryz.ntmps223
  go_wp2_with (at_builtin; refine appSh rfl _ _ rfl w _ [] rfl hE p n cap us xs rfl HN.out (hat.keeps k0) hus (by simp) (by simp; omega) ?_; intro v1 w1 hv1 hg1 hr1; have kw1 := k0.grown hg1 hr1)
  simp only [List.nil_append] at hv1
  clear hE
  go_loopw [5, 6] (fun o i' wr => ∃ k : Nat, k ≤ ys.length ∧ i' = .int .i64 k ∧ ShL w wr o (withL xs (ys.take k)) ∧ Keeps w wr) (fun _ i _ => ys.length - (intOf i).toNat)
  case atStart => exact ⟨0, by omega, rfl, hv1, kw1⟩
  case round =>
    obtain ⟨k, hk, rfl, hown, kw⟩ := hrel
    clear hv1 hg1 hr1 kw1 k0
    have hsz := kw.size
    by_cases hlt : k < ys.length
    · obtain ⟨b, off, u1, rfl, hc0, hu1⟩ := hu0.get k hlt
      have hc := kw.cell hc0
      have hlt' : (k : Int) < ys.length := by omega
      have hwl := withL_len (ys.take k) xs
      have hsn := withL_snoc (ys.take k) xs ys[k]
      rw [← List.take_succ_eq_append_getElem hlt] at hsn
      have htl : (ys.take k).length ≤ ys.length := by simp; omega
      have HSN := hid hsn; clear hsn hc0 hu0
      have hnd := hown.ndsL kw (by omega)
      have HH := hid (l23Has_any (withL xs (ys.take k)) ys[k] _ u1 wr hnd (hu1.keeps kw))
      obtain ⟨p2, n2, q2, e2⟩ := NdsL.shapeL hnd
      obtain ⟨p1, n1, q1, rfl⟩ := hu1.shape
      subst e2
      clear hnd
      generalize hW : withL xs (ys.take k) = L at *
      clear hW
      by_cases hm : ys[k] ∈ L
      · rw [decide_eq_true hm] at HH
        have HM := hid hm; clear hm
        go_wp2_with fail
        refine HH.out.mono ?_; rintro e w2 ⟨rfl, k2⟩
        go_wp2_with fail
        go_roundw
        case rel => exact ⟨k + 1, by omega, by go_num, by rw [HSN.out, if_pos HM.out]; exact hown.keeps k2, kw.trans k2⟩
        case measure => simp [intOf]; omega
      · rw [decide_eq_false hm] at HH
        have HM := hid hm; clear hm
        go_wp2_with fail
        refine HH.out.mono ?_; rintro e w2 ⟨rfl, k2⟩
        have hc2 := k2.cell hc
        have k3 := k2.alloc (.cells #[.slice p1 n1 q1] 24)
        have hat1 := At.lit1 w2 (.slice p1 n1 q1) 24
        go_wp2_with (at_builtin; refine appSh rfl _ _ rfl w _ L rfl (hown.keeps k3) _ _ _ [.slice p1 n1 q1] [ys[k]] rfl rfl hat1 (RowsS.one hu1) (by have := k2.size; simp; omega) (by simp; omega) ?_; intro v4 w4 hv4 hg4 hr4; have k4 := (kw.trans k3).grown hg4 hr4)
        go_roundw
        case rel => exact ⟨k + 1, by omega, by go_num, by rw [HSN.out, if_neg HM.out]; exact hv4, k4⟩
        case measure => simp [intOf]; omega
    · have e : ys.take k = ys := List.take_of_length_le (by omega)
      rw [e] at hown
      clear e
      have hwl := withL_len ys xs
      go_wp2
      go_ret
      exact ⟨_, rfl, hown.ndsL kw (by omega), kw⟩
end Go.Proofs.YtodeecmhcfbheaaGreat
/- The reference's decider of sequents: what follows at once, and the search itself. -/
namespace Go.Proofs.YtodeecmhcfbheaaGreat
open Go.RowKit
/-- a formula that follows at once from the others -/
def useF (H : List Fm) : Fm → Bool
  | .or x y => decide (x ∈ H) || decide (y ∈ H)
  | .imp x y => x.isFls || decide (y ∈ H)
  | _ => false
theorem has_enc (G : List Fm) (a : Fm) : decide (a.enc ∈ G.map Fm.enc) = decide (a ∈ G) := decide_eq_decide.2 enc_mem
--
theorem has_fm (G : List Fm) (a : Fm) (v u : Value) (w : World) (hv : FsL w v G) (hu : Nds w u a.enc) :
    Calls Tryz.prog 221 #[v, u] w fun e w' => e = .returned (.bool (decide (a ∈ G))) ∧ Keeps w w' := by
  have h := l23Has_any _ _ v u w hv hu
  rw [has_enc] at h
  exact h
--
theorem with_fm (G Y : List Fm) (v u : Value) (w : World) (hv : FsL w v G) (hu : FsL w u Y) (hl : G.length + Y.length ≤ 2000000000) :
    Calls Tryz.prog 223 #[v, u] w fun e w' => ∃ v', e = .returned v' ∧ FsL w' v' (withL G Y) ∧ Keeps w w' := by
  have h := l23With_any _ _ v u w hv hu (by simpa using hl)
  rw [withL_enc] at h
  exact h
theorem FsL.keeps {w w' : World} {v : Value} {G : List Fm} (h : FsL w v G) (k : Keeps w w') : FsL w' v G := NdsL.keeps h k
--
set_option maxRecDepth 20000 in
set_option maxHeartbeats 1000000 in
theorem l23Useless_any (H : List Fm) (a : Fm) (hp : a.plain = true) (v u : Value) (w : World) (hv : FsL w v H) (hu : Nds w u a.enc) :
    Calls Tryz.prog 222 #[v, u] w fun e w' => e = .returned (.bool (useF H a)) ∧ Keeps w w' := by
  have hu0 := hu
  obtain ⟨pv, nv, cv, rfl⟩ := NdsL.shapeL hv
  cases a with
  | or x y =>
    obtain ⟨b, off, n, cap, rfl, h0, h1, h2, h3, hc, _⟩ := hu.head
    clear hu
    have HX := hid (fun w1 u1 (hv1 : FsL w1 (.slice pv nv cv) H) (hu1 : Nds w1 u1 x.enc) => has_fm H x _ u1 w1 hv1 hu1)
    have HY := hid (fun w1 u1 (hv1 : FsL w1 (.slice pv nv cv) H) (hu1 : Nds w1 u1 y.enc) => has_fm H y _ u1 w1 hv1 hu1)
    cases hx : decide (x ∈ H)
    · have Hx := hid hx; clear hx
      go_enter Tryz.func222, Tryz.ntmps222
      go_wp2_with fail
      refine (l02Left_any _ _ x y.enc _ _ hu0 rfl).mono ?_; rintro e w' ⟨v1, rfl, hv1, rfl⟩
      go_wp2_with fail
      refine (HX.out w v1 hv hv1).mono ?_; rintro e w2 ⟨rfl, k2⟩; rw [Hx.out]
      go_wp2_with fail
      refine (l02Right_any _ _ x y _ _ (hu0.keeps k2) rfl).mono ?_; rintro e w' ⟨v2, rfl, hv2, rfl⟩
      go_wp2_with fail
      refine (HY.out w2 v2 (hv.keeps k2) hv2).mono ?_; rintro e w3 ⟨rfl, k3⟩
      go_wp2_with fail
      go_ret
      exact ⟨ret_bool (by simp only [useF, Hx.out, Bool.false_or]), k2.trans k3⟩
    · have Hx := hid hx; clear hx
      go_enter Tryz.func222, Tryz.ntmps222
      go_wp2_with fail
      refine (l02Left_any _ _ x y.enc _ _ hu0 rfl).mono ?_; rintro e w' ⟨v1, rfl, hv1, rfl⟩
      go_wp2_with fail
      refine (HX.out w v1 hv hv1).mono ?_; rintro e w2 ⟨rfl, k2⟩; rw [Hx.out]
      go_wp2_with fail
      go_ret
      exact ⟨ret_bool (by simp only [useF, Hx.out, Bool.true_or]), k2⟩
  | imp x y =>
    obtain ⟨b, off, n, cap, rfl, h0, h1, h2, h3, hc, _⟩ := hu.head
    clear hu
    have HY := hid (fun w1 u1 (hv1 : FsL w1 (.slice pv nv cv) H) (hu1 : Nds w1 u1 y.enc) => has_fm H y _ u1 w1 hv1 hu1)
    have hk := Fm.kind_isFls x
    cases hx : x.isFls
    · rw [hx] at hk
      have Hx := hid hx; clear hx
      go_enter Tryz.func222, Tryz.ntmps222
      go_wp2_with fail
      refine (l02Left_any _ _ x y.enc _ _ hu0 rfl).mono ?_; rintro e w' ⟨v1, rfl, hv1, rfl⟩
      obtain ⟨b1, off1, n1, cap1, rfl, g0, g1, g2, g3, gc, _⟩ := hv1.root
      go_wp2_with fail
      refine (l02Right_any _ _ x y _ _ hu0 rfl).mono ?_; rintro e w' ⟨v2, rfl, hv2, rfl⟩
      go_wp2_with fail
      refine (HY.out w v2 hv hv2).mono ?_; rintro e w3 ⟨rfl, k3⟩
      go_wp2_with fail
      go_ret
      exact ⟨ret_bool (by simp only [useF, Hx.out, Bool.false_or]), k3⟩
    · rw [hx] at hk
      have Hx := hid hx; clear hx
      go_enter Tryz.func222, Tryz.ntmps222
      go_wp2_with fail
      refine (l02Left_any _ _ x y.enc _ _ hu0 rfl).mono ?_; rintro e w' ⟨v1, rfl, hv1, rfl⟩
      obtain ⟨b1, off1, n1, cap1, rfl, g0, g1, g2, g3, gc, _⟩ := hv1.root
      go_wp2_with fail
      go_ret
      exact ⟨ret_bool (by simp only [useF, Hx.out, Bool.true_or]), Keeps.refl _⟩
  | box x => cases hp
  | dia x => cases hp
  | _ =>
    obtain ⟨b, off, n, cap, rfl, h0, h1, h2, h3, hc, _⟩ := hu.head
    go_enter Tryz.func222, Tryz.ntmps222
    go_wp2_with fail
    go_ret
    exact ⟨rfl, Keeps.refl _⟩
/-! ### the search -/
open Classical in
noncomputable def sqB (G : List Fm) (c : Fm) : Bool := decide (Sq G c)
theorem sqB_iff {G : List Fm} {c : Fm} : sqB G c = true ↔ Sq G c := by unfold sqB; exact @decide_eq_true_iff _ (Classical.propDecidable _)
theorem sqB_true {G : List Fm} {c : Fm} (h : Sq G c) : sqB G c = true := sqB_iff.2 h
theorem sqB_false {G : List Fm} {c : Fm} (h : ¬ Sq G c) : sqB G c = false := by
  cases hb : sqB G c with
  | false => rfl
  | true => exact absurd (sqB_iff.1 hb) h
theorem sqB_congr {G H : List Fm} {c d : Fm} (h : Sq G c ↔ Sq H d) : sqB G c = sqB H d := by
  by_cases hs : Sq G c
  · rw [sqB_true hs, sqB_true (h.1 hs)]
  · rw [sqB_false hs, sqB_false (fun k => hs (h.2 k))]
/-- the others -/
def rest (G : List Fm) (k : Nat) : List Fm := G.take k ++ G.drop (k + 1)
theorem mem_rest {G : List Fm} {k : Nat} (h : k < G.length) (a : Fm) : a ∈ G ↔ a = G[k] ∨ a ∈ rest G k := by
  have e : G = G.take k ++ (G[k] :: G.drop (k + 1)) := by rw [← List.drop_eq_getElem_cons h, List.take_append_drop]
  constructor
  · intro ha
    rw [e] at ha
    unfold rest
    rcases List.mem_append.1 ha with ha | ha
    · exact .inr (List.mem_append.2 (.inl ha))
    · rcases List.mem_cons.1 ha with ha | ha
      · exact .inl ha
      · exact .inr (List.mem_append.2 (.inr ha))
  · rintro (ha | ha)
    · rw [ha]; exact List.getElem_mem h
    · unfold rest at ha
      rcases List.mem_append.1 ha with ha | ha
      · exact List.mem_of_mem_take ha
      · exact List.mem_of_mem_drop ha
theorem wts_rest {G : List Fm} {k : Nat} (h : k < G.length) : wts G = wt G[k] + wts (rest G k) := by
  have e : G = G.take k ++ (G[k] :: G.drop (k + 1)) := by rw [← List.drop_eq_getElem_cons h, List.take_append_drop]
  have h2 : wts G = wts (G.take k ++ (G[k] :: G.drop (k + 1))) := by rw [← e]
  rw [h2, rest, wts_append, wts_append]
  simp only [wts]; omega
/-- what the first loop leaves alone -/
def stuck (H : List Fm) (a : Fm) : Prop := (∃ p, a = .var p) ∨ (∃ p b, a = .imp (.var p) b ∧ Fm.var p ∉ H) ∨ (∃ x y b, a = .imp (.imp x y) b)
theorem final_of {G : List Fm} (hf : Fm.fls ∉ G) (h : ∀ k (hk : k < G.length), stuck (rest G k) G[k]) : Final G := by
  refine ⟨hf, fun a ha => ?_⟩
  obtain ⟨k, hk, rfl⟩ := List.getElem_of_mem ha
  rcases h k hk with ⟨p, e⟩ | ⟨p, b, e, hn⟩ | ⟨x, y, b, e⟩
  · exact .inl ⟨p, e⟩
  · refine .inr (.inl ⟨p, b, e, fun hp => ?_⟩)
    rcases (mem_rest hk _).1 hp with h1 | h1
    · rw [e] at h1; cases h1
    · exact hn h1
  · exact .inr (.inr (.inr ⟨x, y, b, e⟩))
end Go.Proofs.YtodeecmhcfbheaaGreat
/- What stands behind a place of a slice of node lists. -/
namespace Go.Proofs.YtodeecmhcfbheaaGreat
open Go.RowKit
theorem sizeOfL (w : World) : (sizeOf 24).run Tryz.prog w = .ok 1 w := by
  obtain ⟨i0, hi, hz0, hz1, hz2⟩ := info_parts infoL
  simp [sizeOf, typeInfo, hi, hz1]
theorem tailL (b off m cap l : Nat) (i : Int) (hi : i = l) (hl : l ≤ m) (hc : m ≤ cap) :
    ∃ q, (∀ (w : World) (vs : List Value), At w (some ⟨b, off, none⟩) vs → vs.length = m → At w q (vs.drop l)) ∧
      ∀ wx, (Instr.slice 35 (.slice (some ⟨b, off, none⟩) m cap) (some (.int .i64 i)) none none).run Tryz.prog wx = .ok (.slice q (m - l) (cap - l)) wx := by
  subst hi
  have hT : Tryz.prog.underlying 35 = some (.slice (Tryz.prog.elem 35)) := by kernel_rfl
  have hE : Tryz.prog.elem 35 = 24 := by kernel_rfl
  refine ⟨if cap = l then some ⟨b, off, none⟩ else some ⟨b, off + l, none⟩, fun w vs h hvl => ?_, fun wx => ?_⟩
  · split
    · rename_i e
      have : vs.drop l = [] := List.drop_eq_nil_of_le (by omega)
      rw [this]
      exact At.nil _ _
    · exact h.drop l rfl
  · rw [run_slice_l (P := Tryz.prog) wx 35 (some ⟨b, off, none⟩) m cap hT .i64 (l : Int) (by omega) (by omega), hE, sizeOfL]
    simp only [Result.andThen_ok, sliced, Int.toNat_natCast, Nat.mul_one, Option.map_some]
    have hadd : (⟨b, off, none⟩ : Addr).add l = ⟨b, off + l, none⟩ := by unfold Addr.add; split <;> simp_all
    rw [hadd]
end Go.Proofs.YtodeecmhcfbheaaGreat
/- The reference's search, walked. -/
namespace Go.Proofs.YtodeecmhcfbheaaGreat
open Go.RowKit
theorem FsL.get {w : World} {p : Option Addr} {n cap : Nat} {G : List Fm} (h : FsL w (.slice p n cap) G) (i : Nat) (hi : i < G.length) :
    ∃ b off u, p = some ⟨b, off, none⟩ ∧ w.cell? ⟨b, off + i, none⟩ = some u ∧ Nds w u G[i].enc := by
  obtain ⟨b, off, u, h1, h2, h3⟩ := NdsL.get h i (by simpa using hi)
  exact ⟨b, off, u, h1, h2, by simpa using h3⟩
theorem FsL.len {w : World} {p : Option Addr} {n cap : Nat} {G : List Fm} (h : FsL w (.slice p n cap) G) : n = G.length ∧ n ≤ cap ∧ cap ≤ maxLen := by
  obtain ⟨_, _, e, h1, h2, _⟩ := h
  cases e
  exact ⟨by simp, h1, h2⟩
/-- a search that is shorter answers as the sequent says -/
def Srch (n : Nat) : Prop := ∀ (G : List Fm) (c : Fm), wts G + wt c ≤ n → (∀ a ∈ G, a.plain = true) → c.plain = true → ∀ (v u : Value) (w : World), FsL w v G → Nds w u c.enc →
    Calls Tryz.prog 174 #[v, u] w fun e w' => e = .returned (.bool (sqB G c)) ∧ Keeps w w'
theorem isFls_eq' {b : Fm} (h : b.isFls = true) : b = .fls := by cases b <;> simp [Fm.isFls] at h <;> rfl
/-- what the first loop leaves alone, in full -/
def stk (H : List Fm) (a : Fm) : Prop := ((∃ p, a = .var p) ∨ (∃ p b, a = .imp (.var p) b ∧ Fm.var p ∉ H) ∨ (∃ x y b, a = .imp (.imp x y) b ∧ Fm.imp x y ∉ H)) ∧ useF H a = false
def AllStk (G : List Fm) : Prop := ∀ k (hk : k < G.length), stk (rest G k) G[k]
theorem stk.stuck {H : List Fm} {a : Fm} (h : stk H a) : stuck H a := by
  rcases h.1 with h | h | ⟨x, y, b, h, _⟩
  · exact .inl h
  · exact .inr (.inl h)
  · exact .inr (.inr ⟨x, y, b, h⟩)
set_option maxRecDepth 100000 in
set_option maxHeartbeats 1000000 in
theorem search_quick (G : List Fm) (c : Fm) (h12 : c ∈ G ∨ Fm.fls ∈ G) (v u : Value) (w : World) (hv : FsL w v G) (hu : Nds w u c.enc) :
    Calls Tryz.prog 174 #[v, u] w fun e w' => e = .returned (.bool (sqB G c)) ∧ Keeps w w' := by
  have hu0 := hu
  have hv0 := hv
  obtain ⟨p, m, cap, rfl⟩ := NdsL.shapeL hv
  obtain ⟨hm, hmc, hmx⟩ := FsL.len hv
  have HM := hid hm; clear hm
  unfold maxLen at hmx
  have HC := hid (has_fm G c _ _ w hv hu)
  have HF := hid (fun w1 (k : Keeps w w1) u1 (h : Nds w1 u1 Fm.fls.enc) => has_fm G .fls _ u1 w1 (hv.keeps k) h)
  by_cases h1 : c ∈ G
  · rw [decide_eq_true h1] at HC
    rw [sqB_true (sq_mem h1)]
    clear h1 hv hu h12
    go_enter Tryz.func174, Tryz.ntmps174
    go_wp2_with fail
    refine HC.out.mono ?_; rintro e w2 ⟨rfl, k2⟩
    go_wp2_with fail
    go_ret
    exact ⟨rfl, k2⟩
  rw [decide_eq_false h1] at HC
  by_cases h2 : Fm.fls ∈ G
  · rw [decide_eq_true h2] at HF
    rw [sqB_true (sq_fls h2)]
    clear h1 h2 hv hu h12
    go_enter Tryz.func174, Tryz.ntmps174
    go_wp2_with fail
    refine HC.out.mono ?_; rintro e w2 ⟨rfl, k2⟩
    go_wp2_with fail
    refine (l02False_any _).mono ?_; rintro e w3 ⟨v3, rfl, hv3, k3⟩
    go_wp2_with fail
    refine (HF.out w3 (k2.trans k3) _ (hv3.nds (by simp [Fm.enc]))).mono ?_; rintro e w4 ⟨rfl, k4⟩
    go_wp2_with fail
    go_ret
    exact ⟨rfl, (k2.trans k3).trans k4⟩
  exact absurd h12 (by simp [h1, h2])
end Go.Proofs.YtodeecmhcfbheaaGreat
