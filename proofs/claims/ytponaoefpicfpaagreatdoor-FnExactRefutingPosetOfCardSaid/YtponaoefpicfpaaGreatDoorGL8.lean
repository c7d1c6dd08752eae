/- Walks: the program's reader of formulas, at all levels of the grammar. -/
import Derived.Test.YtponaoefpicfpaaGreatDoorGP3
import Derived.Test.YtponaoefpicfpaaGreatDoorGAL
import Derived.Test.YtponaoefpicfpaaGreatDoorGW4
import Derived.Deep.RegionHeld3
namespace Go.Proofs.YtponaoefpicfpaaGreatDoor
open Go.RowKit
/-- the letters of the variables -/
def letters6 : ByteArray := ⟨#[112, 113, 114, 115, 116, 117]⟩
/-- an iterator of a string set to a place -/
def setIter (w : World) (g : Nat) (s : ByteArray) (p : Nat) : World := { w with heap := w.heap.setIfInBounds g (.stringIter s p) }
theorem grown_iter (w : World) (g : Nat) (s : ByteArray) (p : Nat) : w.grownBy (setIter w g s p) (some g) :=
  ⟨rfl, rfl, rfl, by simp [setIter], fun k _ hk => by
    show (w.heap.setIfInBounds g _)[k]? = w.heap[k]?
    rw [Array.getElem?_setIfInBounds_ne (fun e => hk (by rw [e]))]⟩
theorem iter_at {w : World} {g : Nat} {s' : ByteArray} {p' : Nat} (h : g < w.heap.size) : (setIter w g s' p').heap[g]? = some (.stringIter s' p') := by
  show (w.heap.setIfInBounds g _)[g]? = _
  rw [Array.getElem?_setIfInBounds_self_of_lt h]
theorem run_next_at {P : Program} (w : World) (g : Nat) (s : ByteArray) (pos : Nat) (ty : TypeId) (hh : w.heap[g]? = some (.stringIter s pos)) (h : pos < s.size) (ha : (s[pos]'h).toNat < 128) :
    (Instr.next (.pointer (some ⟨g, 0, none⟩)) true ty).run P w = .ok (.tuple #[.bool true, .int .i64 pos, .int .i32 (s[pos]'h).toNat]) (setIter w g s (pos + 1)) := by
  simp only [Instr.next, getObj, setObj, Sem.run_bind, Sem.run, hh, Result.andThen, h, if_true, decode_ascii s pos h ha, setIter]
  simp [goInt]
--
set_option maxRecDepth 20000 in
theorem truth_any (w : World) : Calls Tryz.prog 357 #[] w (RetN w (Fm.imp .fls .fls).enc) := by
  go_enter Tryz.func357, Tryz.ntmps357
  go_wp2
  go_ret
  refine ⟨_, rfl, ?_, (Keeps.refl w).alloc _⟩
  exact ⟨rfl, .inr ⟨w.heap.size, 3, _, rfl, Nat.le_refl _, heap_alloc_new w _, Nat.le_refl _, by simp [maxLen], rfl, rfl⟩⟩
--
set_option maxRecDepth 20000 in
theorem variable_any (v : Nat) (w : World) : Calls Tryz.prog 145 #[.int .i64 v] w (RetN w (Fm.var v).enc) := by
  go_enter Tryz.func145, Tryz.ntmps145
  go_wp2
  go_ret
  exact ⟨_, rfl, OwnN.lit1 w ⟨0, v⟩, (Keeps.refl w).alloc _⟩
--
set_option maxRecDepth 20000 in
set_option maxHeartbeats 2000000 in
theorem iNeed {w : World} {r : Nat} {s : ByteArray} {i : Nat} {b : UInt8} {l : List UInt8} {k : Int} (h : RdAt w r s i false) (hd : (bts s).drop i = b :: l) (hk : k = (b.toNat : Int)) :
    Calls Tryz.prog 351 #[.pointer (some ⟨r, 0, none⟩), .int .u8 k] w fun e w' => e = .returned (.tuple #[]) ∧ RdAt w' r s (i + 1) false ∧ w.grownBy w' (some r) := by
  have H := hid (take_hit h hd hk)
  clear h hd hk
  go_enter Tryz.func351, Tryz.ntmps351
  go_wp2_with fail
  refine H.out.mono ?_; rintro e w1 ⟨rfl, h1, g1⟩
  go_wp2_with fail
  refine bodyPost_end (v := .tuple #[]) (by simp [results, Tryz.results351, go_sem]) rfl ?_
  exact ⟨rfl, h1, g1⟩
--
set_option maxRecDepth 20000 in
set_option maxHeartbeats 1000000 in
theorem iAnd (x0 : Fm) (xs : List Fm) (hx0 : Reads 342 3 x0 (x0.txt 3)) (hxs : ∀ x ∈ xs, Reads 342 3 x (x.txt 3)) :
    Reads 317 2 (xs.foldl Fm.and x0) (x0.txt 3 ++ Fm.behind 38 3 xs) := by
  intro w r s i rest h hd hst hlen
  have hl0 := fold_and_len xs x0
  rw [List.append_assoc] at hd
  have hd1 := drop_more hd
  have hst1 : stops 3 (Fm.behind 38 3 xs ++ rest) := by
    cases xs with
    | nil => exact hst.up (by omega)
    | cons y ys => exact ⟨fun e => by first | omega | simp [Fm.behind], fun e => by first | omega | simp [Fm.behind], fun e => by omega⟩
  have H0 := hid (hx0 w r s i _ h hd hst1 (by omega))
  clear hd hst1 hx0
  generalize hT : xs.foldl Fm.and x0 = T at *
  have HT := hid hT; clear hT
  have hr := h.lt
  have Hxs := hid hxs; clear hxs
  have Hd1 := hid hd1; clear hd1
  have Hst := hid hst; clear hst
  clear h
  go_enter Tryz.func317, Tryz.ntmps317
  go_wp2_with fail
  refine H0.out.mono ?_; rintro e w1 ⟨v1, rfl, hv1, h1, g1⟩
  clear H0
  go_wp2_with fail
  go_loopw [3] (fun a' wr => ∃ (acc : Fm) (ys : List Fm) (j : Nat), ys.foldl Fm.and acc = T ∧ (∀ x ∈ ys, Reads 342 3 x (x.txt 3)) ∧ OwnN wr w.heap.size a' acc.enc ∧ RdAt wr r s j false ∧ w.grownBy wr (some r) ∧ (bts s).drop j = Fm.behind 38 3 ys ++ rest ∧ j + (Fm.behind 38 3 ys).length = i + (x0.txt 3 ++ Fm.behind 38 3 xs).length) (fun _ wr => match wr.cell? ⟨r, 1, none⟩ with | some (.int _ n) => s.size - n.toNat | _ => 0)
  case atStart => exact ⟨x0, xs, _, HT.out, Hxs.out, hv1, h1, g1, Hd1.out, by rw [List.length_append]; omega⟩
  case round =>
    obtain ⟨acc, ys, j, hT, hys, hacc, hj, gj, hdj, hlj⟩ := hrel
    have HTj := hid hT; clear hT
    have Hys := hid hys; clear hys
    have Hlj := hid hlj; clear hlj
    clear hv1 h1 g1
    have hlacc := fold_and_len ys acc
    rw [HTj.out] at hlacc
    cases ys with
    | nil =>
      have HM := hid (take_miss (k := 38) 38 hj hdj (by first | exact Hst.out.1 (by omega) | exact Hst.out.2.1 (by omega)) rfl)
      go_wp2_with fail
      refine HM.out.mono ?_; rintro e w2 ⟨rfl, h2, k2⟩
      go_wp2_with fail
      go_ret
      have hT := HTj.out
      simp only [List.foldl_nil] at hT
      subst hT
      have hl := Hlj.out
      simp only [Fm.behind, List.length_nil, Nat.add_zero] at hl
      rw [hl] at h2
      exact ⟨_, rfl, hacc.keeps k2, h2, grown_keeps gj k2⟩
    | cons y ys =>
      have hdj' : (bts s).drop j = 38 :: (y.txt 3 ++ (Fm.behind 38 3 ys ++ rest)) := by rw [hdj]; simp [Fm.behind]
      obtain ⟨hjs, _, hdj2⟩ := bts_head hdj'
      have HM := hid (take_hit (k := 38) hj hdj' rfl)
      have hst1 : stops 3 (Fm.behind 38 3 ys ++ rest) := by
        cases ys with
        | nil => exact Hst.out.up (by omega)
        | cons z zs => exact ⟨fun e => by first | omega | simp [Fm.behind], fun e => by first | omega | simp [Fm.behind], fun e => by omega⟩
      have hT := HTj.out
      rw [List.foldl_cons] at hT
      have hl2 := fold_and_len ys (Fm.and acc y)
      rw [hT] at hl2
      have hl3 : (Fm.and acc y).enc.length = 1 + acc.enc.length + y.enc.length := by simp only [Fm.enc, List.length_cons, List.length_append]; omega
      have HT2 := hid hT; clear hT
      have HY := hid (fun w2 (h2 : RdAt w2 r s (j + 1) false) => Hys.out y (List.mem_cons_self ..) w2 r s (j + 1) _ h2 hdj2 hst1 (by omega))
      have Hd2 := hid (drop_more hdj2)
      clear hdj hdj' hdj2 hst1
      go_wp2_with fail
      refine HM.out.mono ?_; rintro e w2 ⟨rfl, h2, g2⟩
      have hacc2 := hacc.grown g2 hr
      clear hacc
      go_wp2_with fail
      refine (HY.out _ h2).mono ?_; rintro e w3 ⟨v3, rfl, hv3, h3, g3⟩
      have hacc3 := hacc2.grown g3 hr
      have hs2 := gj.size
      have hs3 := g2.size
      have gw3 := grown_trans gj (grown_trans g2 g3)
      go_wp2_with fail
      refine (join_any _ _ _ _ _ _ (hacc3.nds (by omega)) (hv3.nds (by omega)) (by omega)).mono ?_; rintro e w4 ⟨v4, rfl, hv4, k4⟩
      have h4 := h3.keeps k4
      go_wp2_with fail
      go_roundw
      case rel =>
        refine ⟨Fm.and acc y, ys, _, HT2.out, fun x hx => Hys.out x (List.mem_cons_of_mem _ hx), hv4.mono (by have := g3.size; omega), h4, grown_keeps gw3 k4, Hd2.out, ?_⟩
        have hl := Hlj.out
        simp only [Fm.behind, List.length_cons, List.length_append] at hl
        simp only [List.length_append] at *
        omega
      case measure =>
        have e1 := hj.c1
        have e2 := h4.c1
        simp [e1, e2]
        omega
--
set_option maxRecDepth 20000 in
set_option maxHeartbeats 1000000 in
theorem iOr (x0 : Fm) (xs : List Fm) (hx0 : Reads 317 2 x0 (x0.txt 2)) (hxs : ∀ x ∈ xs, Reads 317 2 x (x.txt 2)) :
    Reads 284 1 (xs.foldl Fm.or x0) (x0.txt 2 ++ Fm.behind 124 2 xs) := by
  intro w r s i rest h hd hst hlen
  have hl0 := fold_or_len xs x0
  rw [List.append_assoc] at hd
  have hd1 := drop_more hd
  have hst1 : stops 2 (Fm.behind 124 2 xs ++ rest) := by
    cases xs with
    | nil => exact hst.up (by omega)
    | cons y ys => exact ⟨fun e => by first | omega | simp [Fm.behind], fun e => by first | omega | simp [Fm.behind], fun e => by omega⟩
  have H0 := hid (hx0 w r s i _ h hd hst1 (by omega))
  clear hd hst1 hx0
  generalize hT : xs.foldl Fm.or x0 = T at *
  have HT := hid hT; clear hT
  have hr := h.lt
  have Hxs := hid hxs; clear hxs
  have Hd1 := hid hd1; clear hd1
  have Hst := hid hst; clear hst
  clear h
  go_enter Tryz.func284, Tryz.ntmps284
  go_wp2_with fail
  refine H0.out.mono ?_; rintro e w1 ⟨v1, rfl, hv1, h1, g1⟩
  clear H0
  go_wp2_with fail
  go_loopw [3] (fun a' wr => ∃ (acc : Fm) (ys : List Fm) (j : Nat), ys.foldl Fm.or acc = T ∧ (∀ x ∈ ys, Reads 317 2 x (x.txt 2)) ∧ OwnN wr w.heap.size a' acc.enc ∧ RdAt wr r s j false ∧ w.grownBy wr (some r) ∧ (bts s).drop j = Fm.behind 124 2 ys ++ rest ∧ j + (Fm.behind 124 2 ys).length = i + (x0.txt 2 ++ Fm.behind 124 2 xs).length) (fun _ wr => match wr.cell? ⟨r, 1, none⟩ with | some (.int _ n) => s.size - n.toNat | _ => 0)
  case atStart => exact ⟨x0, xs, _, HT.out, Hxs.out, hv1, h1, g1, Hd1.out, by rw [List.length_append]; omega⟩
  case round =>
    obtain ⟨acc, ys, j, hT, hys, hacc, hj, gj, hdj, hlj⟩ := hrel
    have HTj := hid hT; clear hT
    have Hys := hid hys; clear hys
    have Hlj := hid hlj; clear hlj
    clear hv1 h1 g1
    have hlacc := fold_or_len ys acc
    rw [HTj.out] at hlacc
    cases ys with
    | nil =>
      have HM := hid (take_miss (k := 124) 124 hj hdj (by first | exact Hst.out.1 (by omega) | exact Hst.out.2.1 (by omega)) rfl)
      go_wp2_with fail
      refine HM.out.mono ?_; rintro e w2 ⟨rfl, h2, k2⟩
      go_wp2_with fail
      go_ret
      have hT := HTj.out
      simp only [List.foldl_nil] at hT
      subst hT
      have hl := Hlj.out
      simp only [Fm.behind, List.length_nil, Nat.add_zero] at hl
      rw [hl] at h2
      exact ⟨_, rfl, hacc.keeps k2, h2, grown_keeps gj k2⟩
    | cons y ys =>
      have hdj' : (bts s).drop j = 124 :: (y.txt 2 ++ (Fm.behind 124 2 ys ++ rest)) := by rw [hdj]; simp [Fm.behind]
      obtain ⟨hjs, _, hdj2⟩ := bts_head hdj'
      have HM := hid (take_hit (k := 124) hj hdj' rfl)
      have hst1 : stops 2 (Fm.behind 124 2 ys ++ rest) := by
        cases ys with
        | nil => exact Hst.out.up (by omega)
        | cons z zs => exact ⟨fun e => by first | omega | simp [Fm.behind], fun e => by first | omega | simp [Fm.behind], fun e => by omega⟩
      have hT := HTj.out
      rw [List.foldl_cons] at hT
      have hl2 := fold_or_len ys (Fm.or acc y)
      rw [hT] at hl2
      have hl3 : (Fm.or acc y).enc.length = 1 + acc.enc.length + y.enc.length := by simp only [Fm.enc, List.length_cons, List.length_append]; omega
      have HT2 := hid hT; clear hT
      have HY := hid (fun w2 (h2 : RdAt w2 r s (j + 1) false) => Hys.out y (List.mem_cons_self ..) w2 r s (j + 1) _ h2 hdj2 hst1 (by omega))
      have Hd2 := hid (drop_more hdj2)
      clear hdj hdj' hdj2 hst1
      go_wp2_with fail
      refine HM.out.mono ?_; rintro e w2 ⟨rfl, h2, g2⟩
      have hacc2 := hacc.grown g2 hr
      clear hacc
      go_wp2_with fail
      refine (HY.out _ h2).mono ?_; rintro e w3 ⟨v3, rfl, hv3, h3, g3⟩
      have hacc3 := hacc2.grown g3 hr
      have hs2 := gj.size
      have hs3 := g2.size
      have gw3 := grown_trans gj (grown_trans g2 g3)
      go_wp2_with fail
      refine (join_any _ _ _ _ _ _ (hacc3.nds (by omega)) (hv3.nds (by omega)) (by omega)).mono ?_; rintro e w4 ⟨v4, rfl, hv4, k4⟩
      have h4 := h3.keeps k4
      go_wp2_with fail
      go_roundw
      case rel =>
        refine ⟨Fm.or acc y, ys, _, HT2.out, fun x hx => Hys.out x (List.mem_cons_of_mem _ hx), hv4.mono (by have := g3.size; omega), h4, grown_keeps gw3 k4, Hd2.out, ?_⟩
        have hl := Hlj.out
        simp only [Fm.behind, List.length_cons, List.length_append] at hl
        simp only [List.length_append] at *
        omega
      case measure =>
        have e1 := hj.c1
        have e2 := h4.c1
        simp [e1, e2]
        omega
--
set_option maxRecDepth 20000 in
set_option maxHeartbeats 1000000 in
theorem iImply0 (t : Fm) (X : List UInt8) (hx : Reads 284 1 t X) : Reads 244 0 t X := by
  intro w r s i rest h hd hst hlen
  have H0 := hid (hx w r s i _ h hd (hst.up (by omega)) hlen)
  have hd1 := drop_more hd
  have hne := hst.2.2 rfl
  clear hd hst hx h
  go_enter Tryz.func244, Tryz.ntmps244
  go_wp2_with fail
  refine H0.out.mono ?_; rintro e w1 ⟨v1, rfl, hv1, h1, g1⟩
  have HM := hid (take_miss (k := 62) 62 h1 hd1 hne rfl)
  go_wp2_with fail
  refine HM.out.mono ?_; rintro e w2 ⟨rfl, h2, k2⟩
  go_wp2_with fail
  go_ret
  exact ⟨_, rfl, hv1.keeps k2, h2, grown_keeps g1 k2⟩
set_option maxRecDepth 20000 in
set_option maxHeartbeats 1000000 in
theorem iImply1 (a b : Fm) (ha : Reads 284 1 a (a.txt 1)) (hb : Reads 244 0 b b.body) : Reads 244 0 (Fm.imp a b) (a.txt 1 ++ 62 :: b.body) := by
  intro w r s i rest h hd hst hlen
  have hl3 : (Fm.imp a b).enc.length = 1 + a.enc.length + b.enc.length := by simp only [Fm.enc, List.length_cons, List.length_append]; omega
  rw [List.append_assoc, List.cons_append] at hd
  have H0 := hid (ha w r s i _ h hd ⟨fun e => by simp, fun e => by simp, fun e => by omega⟩ (by omega))
  have hd1 := drop_more hd
  have hr := h.lt
  obtain ⟨_, _, hd2⟩ := bts_head hd1
  have HB := hid (fun w2 h2 => hb w2 r s (i + (a.txt 1).length + 1) _ h2 hd2 hst (by omega))
  clear hd hst ha hb h
  go_enter Tryz.func244, Tryz.ntmps244
  go_wp2_with fail
  refine H0.out.mono ?_; rintro e w1 ⟨v1, rfl, hv1, h1, g1⟩
  have HM := hid (take_hit (k := 62) h1 hd1 rfl)
  go_wp2_with fail
  refine HM.out.mono ?_; rintro e w2 ⟨rfl, h2, g2⟩
  go_wp2_with fail
  refine (HB.out _ h2).mono ?_; rintro e w3 ⟨v3, rfl, hv3, h3, g3⟩
  have hv13 := (hv1.grown g2 hr).grown g3 hr
  have gw3 := grown_trans g1 (grown_trans g2 g3)
  go_wp2_with fail
  refine (join_any _ _ _ _ _ _ (hv13.nds (by omega)) (hv3.nds (by omega)) (by omega)).mono ?_; rintro e w4 ⟨v4, rfl, hv4, k4⟩
  have h4 := h3.keeps k4
  go_wp2_with fail
  go_ret
  refine ⟨_, rfl, hv4.mono gw3.size, ?_, grown_keeps gw3 k4⟩
  simpa only [List.length_append, List.length_cons, Nat.add_assoc, Nat.add_comm 1] using h4
--
set_option maxRecDepth 20000 in
set_option maxHeartbeats 1000000 in
theorem iPrefixAtom {w : World} {r : Nat} {s : ByteArray} {i j : Nat} {c : UInt8} {l : List UInt8} {a : List Nd} (h : RdAt w r s i false) (hd : (bts s).drop i = c :: l) (n1 : c ≠ 126) (n2 : c ≠ 91) (n3 : c ≠ 60)
    (H : ∀ w1, RdAt w1 r s i false → Keeps w w1 → Calls Tryz.prog 353 #[.pointer (some ⟨r, 0, none⟩)] w1 (RetRd w1 r s j a)) : Calls Tryz.prog 342 #[.pointer (some ⟨r, 0, none⟩)] w (RetRd w r s j a) := by
  have HH := hid H; clear H
  go_enter Tryz.func342, Tryz.ntmps342
  go_wp2_with fail
  refine (take_miss (k := 126) 126 h hd (by simpa using n1) rfl).mono ?_; rintro e w1 ⟨rfl, h1, k1⟩
  go_wp2_with fail
  refine (take_miss (k := 91) 91 h1 hd (by simpa using n2) rfl).mono ?_; rintro e w2 ⟨rfl, h2, k2⟩
  go_wp2_with fail
  refine (take_miss (k := 60) 60 h2 hd (by simpa using n3) rfl).mono ?_; rintro e w3 ⟨rfl, h3, k3⟩
  have k := (k1.trans k2).trans k3
  go_wp2_with fail
  refine (HH.out _ h3 k).mono ?_; rintro e w4 ⟨v, rfl, hv, h4, g4⟩
  go_wp2_with fail
  go_ret
  exact ⟨_, rfl, hv.mono k.size, h4, grown_pre0 k g4⟩
set_option maxRecDepth 20000 in
set_option maxHeartbeats 1000000 in
theorem iFls : Reads 342 3 .fls [70] := by
  intro w r s i rest h hd hst hlen
  refine iPrefixAtom h hd (by decide) (by decide) (by decide) ?_
  intro w1 h1 k1
  go_enter Tryz.func353, Tryz.ntmps353
  go_wp2_with fail
  refine (take_hit (k := 70) h1 hd rfl).mono ?_; rintro e w2 ⟨rfl, h2, g2⟩
  go_wp2_with fail
  refine (falsum_any _).mono ?_; rintro e w3 ⟨v3, rfl, hv3, k3⟩
  go_wp2_with fail
  go_ret
  exact ⟨_, rfl, hv3.mono g2.size, h2.keeps k3, grown_keeps g2 k3⟩
set_option maxRecDepth 20000 in
set_option maxHeartbeats 1000000 in
theorem iTru : Reads 342 3 (.imp .fls .fls) [84] := by
  intro w r s i rest h hd hst hlen
  refine iPrefixAtom h hd (by decide) (by decide) (by decide) ?_
  intro w1 h1 k1
  go_enter Tryz.func353, Tryz.ntmps353
  go_wp2_with fail
  refine (take_miss (k := 70) 70 h1 hd (by simp) rfl).mono ?_; rintro e w2 ⟨rfl, h2, k2⟩
  go_wp2_with fail
  refine (take_hit (k := 84) h2 hd rfl).mono ?_; rintro e w3 ⟨rfl, h3, g3⟩
  have g := grown_pre0 k2 g3
  go_wp2_with fail
  refine (truth_any _).mono ?_; rintro e w4 ⟨v4, rfl, hv4, k4⟩
  go_wp2_with fail
  go_ret
  exact ⟨_, rfl, hv4.mono g.size, h3.keeps k4, grown_keeps g k4⟩
set_option maxRecDepth 20000 in
set_option maxHeartbeats 1000000 in
theorem iPar (t : Fm) (ht : Reads 244 0 t t.body) : Reads 342 3 t (40 :: (t.body ++ [41])) := by
  intro w r s i rest h hd hst hlen
  rw [List.cons_append, List.append_assoc] at hd
  refine iPrefixAtom h hd (by decide) (by decide) (by decide) ?_
  obtain ⟨_, _, hd2⟩ := bts_head hd
  have hd3 := drop_more hd2
  have HT := hid (fun w1 h1 => ht w1 r s (i + 1) _ h1 hd2 ⟨fun e => by simp, fun e => by simp, fun e => by simp⟩ hlen)
  clear ht
  intro w1 h1 k1
  have hr := h1.lt
  go_enter Tryz.func353, Tryz.ntmps353
  go_wp2_with fail
  refine (take_miss (k := 70) 70 h1 hd (by simp) rfl).mono ?_; rintro e w2 ⟨rfl, h2, k2⟩
  go_wp2_with fail
  refine (take_miss (k := 84) 84 h2 hd (by simp) rfl).mono ?_; rintro e w3 ⟨rfl, h3, k3⟩
  go_wp2_with fail
  refine (take_hit (k := 40) h3 hd rfl).mono ?_; rintro e w4 ⟨rfl, h4, g4⟩
  have g := grown_pre0 (k2.trans k3) g4
  go_wp2_with fail
  refine (HT.out _ h4).mono ?_; rintro e w5 ⟨v5, rfl, hv5, h5, g5⟩
  go_wp2_with fail
  refine (iNeed (k := 41) h5 hd3 rfl).mono ?_; rintro e w6 ⟨rfl, h6, g6⟩
  have hr4 : r < w4.heap.size := h4.lt
  go_wp2_with fail
  go_ret
  refine ⟨_, rfl, (hv5.grown g6 hr4).mono g.size, ?_, grown_trans g (grown_trans g5 g6)⟩
  simpa only [List.length_append, List.length_cons, List.length_nil, Nat.add_assoc, Nat.add_comm 1] using h6
set_option maxRecDepth 20000 in
set_option maxHeartbeats 1000000 in
theorem iNot (a : Fm) (ha : Reads 342 3 a (a.txt 3)) : Reads 342 3 (.imp a .fls) (126 :: a.txt 3) := by
  intro w r s i rest h hd hst hlen
  rw [List.cons_append] at hd
  have hl3 : (Fm.imp a .fls).enc.length = a.enc.length + 2 := by simp only [Fm.enc, List.length_cons, List.length_append, List.length_nil]
  obtain ⟨_, _, hd2⟩ := bts_head hd
  have HA := hid (fun w1 h1 => ha w1 r s (i + 1) _ h1 hd2 hst (by omega))
  clear ha
  go_enter Tryz.func342, Tryz.ntmps342
  go_wp2_with fail
  refine (take_hit (k := 126) h hd rfl).mono ?_; rintro e w1 ⟨rfl, h1, g1⟩
  go_wp2_with fail
  refine (HA.out _ h1).mono ?_; rintro e w2 ⟨v2, rfl, hv2, h2, g2⟩
  have g := grown_trans g1 g2
  go_wp2_with fail
  refine (negation_any a _ _ (hv2.nds (by omega)) (by omega)).mono ?_; rintro e w3 ⟨v3, rfl, hv3, k3⟩
  go_wp2_with fail
  go_ret
  refine ⟨_, rfl, hv3.mono g.size, ?_, grown_keeps g k3⟩
  simpa only [List.length_cons, Nat.add_assoc, Nat.add_comm 1] using h2.keeps k3
set_option maxRecDepth 20000 in
set_option maxHeartbeats 1000000 in
theorem iBox (a : Fm) (ha : Reads 342 3 a (a.txt 3)) : Reads 342 3 (.box a) (91 :: 93 :: a.txt 3) := by
  intro w r s i rest h hd hst hlen
  rw [List.cons_append, List.cons_append] at hd
  have hl3 : (Fm.box a).enc.length = a.enc.length + 1 := by simp only [Fm.enc, List.length_cons]
  obtain ⟨_, _, hd2⟩ := bts_head hd
  obtain ⟨_, _, hd3⟩ := bts_head hd2
  have HA := hid (fun w1 h1 => ha w1 r s (i + 1 + 1) _ h1 hd3 hst (by omega))
  clear ha
  go_enter Tryz.func342, Tryz.ntmps342
  go_wp2_with fail
  refine (take_miss (k := 126) 126 h hd (by simp) rfl).mono ?_; rintro e wa ⟨rfl, ha1, ka⟩
  go_wp2_with fail
  refine (take_hit (k := 91) ha1 hd rfl).mono ?_; rintro e w1 ⟨rfl, h1, g1⟩
  go_wp2_with fail
  refine (iNeed (k := 93) h1 hd2 rfl).mono ?_; rintro e w2 ⟨rfl, h2, g2⟩
  go_wp2_with fail
  refine (HA.out _ h2).mono ?_; rintro e w3 ⟨v3, rfl, hv3, h3, g3⟩
  have g := grown_pre0 ka (grown_trans g1 (grown_trans g2 g3))
  go_wp2_with fail
  refine (prefix_any 5 _ _ _ (hv3.nds (by omega)) (by omega)).mono ?_; rintro e w4 ⟨v4, rfl, hv4, k4⟩
  go_wp2_with fail
  go_ret
  refine ⟨_, rfl, hv4.mono g.size, ?_, grown_keeps g k4⟩
  simpa only [List.length_cons, Nat.add_assoc, Nat.add_comm 1] using h3.keeps k4
set_option maxRecDepth 20000 in
set_option maxHeartbeats 1000000 in
theorem iDia (a : Fm) (ha : Reads 342 3 a (a.txt 3)) : Reads 342 3 (.dia a) (60 :: 62 :: a.txt 3) := by
  intro w r s i rest h hd hst hlen
  rw [List.cons_append, List.cons_append] at hd
  have hl3 : (Fm.dia a).enc.length = a.enc.length + 1 := by simp only [Fm.enc, List.length_cons]
  obtain ⟨_, _, hd2⟩ := bts_head hd
  obtain ⟨_, _, hd3⟩ := bts_head hd2
  have HA := hid (fun w1 h1 => ha w1 r s (i + 1 + 1) _ h1 hd3 hst (by omega))
  clear ha
  go_enter Tryz.func342, Tryz.ntmps342
  go_wp2_with fail
  refine (take_miss (k := 126) 126 h hd (by simp) rfl).mono ?_; rintro e wa ⟨rfl, ha1, ka⟩
  go_wp2_with fail
  refine (take_miss (k := 91) 91 ha1 hd (by simp) rfl).mono ?_; rintro e wb ⟨rfl, hb1, kb⟩
  go_wp2_with fail
  refine (take_hit (k := 60) hb1 hd rfl).mono ?_; rintro e w1 ⟨rfl, h1, g1⟩
  go_wp2_with fail
  refine (iNeed (k := 62) h1 hd2 rfl).mono ?_; rintro e w2 ⟨rfl, h2, g2⟩
  go_wp2_with fail
  refine (HA.out _ h2).mono ?_; rintro e w3 ⟨v3, rfl, hv3, h3, g3⟩
  have g := grown_pre0 (ka.trans kb) (grown_trans g1 (grown_trans g2 g3))
  go_wp2_with fail
  refine (prefix_any 6 _ _ _ (hv3.nds (by omega)) (by omega)).mono ?_; rintro e w4 ⟨v4, rfl, hv4, k4⟩
  go_wp2_with fail
  go_ret
  refine ⟨_, rfl, hv4.mono g.size, ?_, grown_keeps g k4⟩
  simpa only [List.length_cons, Nat.add_assoc, Nat.add_comm 1] using h3.keeps k4
set_option maxRecDepth 20000 in
set_option maxHeartbeats 4000000 in
theorem iVar (v : Nat) (hv6 : v < 6) : Reads 342 3 (.var v) [UInt8.ofNat (112 + v)] := by
  intro w r s i rest h hd hst hlen
  have hb : ∀ k, k < 6 → (UInt8.ofNat (112 + k)).toNat = 112 + k := fun k hk => by rw [UInt8.toNat_ofNat']; omega
  have hne : ∀ k : Nat, k < 112 → UInt8.ofNat (112 + v) ≠ UInt8.ofNat k := by
    intro k hk e
    have := congrArg UInt8.toNat e
    rw [hb v hv6, UInt8.toNat_ofNat'] at this; omega
  refine iPrefixAtom h hd ?_ (hne 91 (by omega)) (hne 60 (by omega)) ?_
  · intro e
    have := congrArg UInt8.toNat e
    rw [hb v hv6] at this
    simp at this; omega
  intro w1 h1 k1
  have hr := h1.lt
  have HN := hid hne; clear hne
  have HB := hid hb; clear hb
  go_enter Tryz.func353, Tryz.ntmps353
  go_wp2_with fail
  refine (take_miss (k := 70) 70 h1 hd (by simpa using HN.out 70 (by omega)) rfl).mono ?_; rintro e w2 ⟨rfl, h2, k2⟩
  go_wp2_with fail
  refine (take_miss (k := 84) 84 h2 hd (by simpa using HN.out 84 (by omega)) rfl).mono ?_; rintro e w3 ⟨rfl, h3, k3⟩
  go_wp2_with fail
  refine (take_miss (k := 40) 40 h3 hd (by simpa using HN.out 40 (by omega)) rfl).mono ?_; rintro e w4 ⟨rfl, h4, k4⟩
  have k := (k2.trans k3).trans k4
  have HD := hid hd; clear hd
  go_wp2_with fail
  go_loopw [4] (fun _ wr => ∃ q : Nat, q ≤ v ∧ wr.heap[w4.heap.size]? = some (.stringIter letters6 q) ∧ Keeps w4 wr) (fun _ wr => 6 - wr.iterPos w4.heap.size)
  case atStart => exact ⟨0, by omega, World.iter_heap .., (Keeps.refl w4).alloc _⟩
  case round =>
    obtain ⟨q, hqv, hit, kj⟩ := hrel
    have hgl : w4.heap.size < wr.heap.size := (Array.getElem?_eq_some_iff.1 hit).1
    have hq6 : q = 0 ∨ q = 1 ∨ q = 2 ∨ q = 3 ∨ q = 4 ∨ q = 5 := by omega
    rcases hq6 with rfl | rfl | rfl | rfl | rfl | rfl
    · have hnx : ∀ ty, (Instr.next (.pointer (some ⟨w4.heap.size, 0, none⟩)) true ty).run Tryz.prog wr = _ := fun ty => run_next_at wr _ letters6 0 ty hit (by decide) (by decide)
      have k5 := kj.grown (grown_iter wr w4.heap.size letters6 (0 + 1)) (fun k hk => by cases hk; omega)
      have hi5 := iter_at (s' := letters6) (p' := 0 + 1) hgl
      have hit0 := hit
      have hs5 : (setIter wr w4.heap.size letters6 (0 + 1)).heap.size = wr.heap.size := by simp [setIter]
      by_cases e : 0 = v
      · subst e
        have HM := hid (take_hit (k := 112) (h4.keeps k5) HD.out rfl)
        clear hit
        go_wp2_with fail
        refine HM.out.mono ?_; rintro e w6 ⟨rfl, h6, g6⟩
        go_wp2_with fail
        refine (variable_any 0 _).mono ?_; rintro e w7 ⟨v7, rfl, hv7, k7⟩
        have gg := grown_pre0 (k.trans k5) g6
        go_wp2_with fail
        go_ret
        exact ⟨_, rfl, hv7.mono gg.size, h6.keeps k7, grown_keeps gg k7⟩
      · have hnev : (UInt8.ofNat (112 + v) :: ([] ++ rest)).head? ≠ some (UInt8.ofNat 112) := by
          intro e2
          have := congrArg UInt8.toNat (Option.some.inj e2)
          rw [HB.out v hv6] at this
          simp at this; omega
        have HM := hid (take_miss (k := 112) (UInt8.ofNat 112) (h4.keeps k5) HD.out hnev rfl)
        clear hit hnev
        have He := hid e; clear e
        go_wp2_with fail
        refine HM.out.mono ?_; rintro e w6 ⟨rfl, h6, k6⟩
        have hi6 : w6.heap[w4.heap.size]? = some (.stringIter letters6 (0 + 1)) := (k6.block (by omega)).trans hi5
        go_wp2_with fail
        go_roundw
        case rel => exact ⟨0 + 1, by have := He.out; omega, hi6, k5.trans k6⟩
        case measure => simp [World.iterPos, hi6, hit0]
    · have hnx : ∀ ty, (Instr.next (.pointer (some ⟨w4.heap.size, 0, none⟩)) true ty).run Tryz.prog wr = _ := fun ty => run_next_at wr _ letters6 1 ty hit (by decide) (by decide)
      have k5 := kj.grown (grown_iter wr w4.heap.size letters6 (1 + 1)) (fun k hk => by cases hk; omega)
      have hi5 := iter_at (s' := letters6) (p' := 1 + 1) hgl
      have hit0 := hit
      have hs5 : (setIter wr w4.heap.size letters6 (1 + 1)).heap.size = wr.heap.size := by simp [setIter]
      by_cases e : 1 = v
      · subst e
        have HM := hid (take_hit (k := 113) (h4.keeps k5) HD.out rfl)
        clear hit
        go_wp2_with fail
        refine HM.out.mono ?_; rintro e w6 ⟨rfl, h6, g6⟩
        go_wp2_with fail
        refine (variable_any 1 _).mono ?_; rintro e w7 ⟨v7, rfl, hv7, k7⟩
        have gg := grown_pre0 (k.trans k5) g6
        go_wp2_with fail
        go_ret
        exact ⟨_, rfl, hv7.mono gg.size, h6.keeps k7, grown_keeps gg k7⟩
      · have hnev : (UInt8.ofNat (112 + v) :: ([] ++ rest)).head? ≠ some (UInt8.ofNat 113) := by
          intro e2
          have := congrArg UInt8.toNat (Option.some.inj e2)
          rw [HB.out v hv6] at this
          simp at this; omega
        have HM := hid (take_miss (k := 113) (UInt8.ofNat 113) (h4.keeps k5) HD.out hnev rfl)
        clear hit hnev
        have He := hid e; clear e
        go_wp2_with fail
        refine HM.out.mono ?_; rintro e w6 ⟨rfl, h6, k6⟩
        have hi6 : w6.heap[w4.heap.size]? = some (.stringIter letters6 (1 + 1)) := (k6.block (by omega)).trans hi5
        go_wp2_with fail
        go_roundw
        case rel => exact ⟨1 + 1, by have := He.out; omega, hi6, k5.trans k6⟩
        case measure => simp [World.iterPos, hi6, hit0]
    · have hnx : ∀ ty, (Instr.next (.pointer (some ⟨w4.heap.size, 0, none⟩)) true ty).run Tryz.prog wr = _ := fun ty => run_next_at wr _ letters6 2 ty hit (by decide) (by decide)
      have k5 := kj.grown (grown_iter wr w4.heap.size letters6 (2 + 1)) (fun k hk => by cases hk; omega)
      have hi5 := iter_at (s' := letters6) (p' := 2 + 1) hgl
      have hit0 := hit
      have hs5 : (setIter wr w4.heap.size letters6 (2 + 1)).heap.size = wr.heap.size := by simp [setIter]
      by_cases e : 2 = v
      · subst e
        have HM := hid (take_hit (k := 114) (h4.keeps k5) HD.out rfl)
        clear hit
        go_wp2_with fail
        refine HM.out.mono ?_; rintro e w6 ⟨rfl, h6, g6⟩
        go_wp2_with fail
        refine (variable_any 2 _).mono ?_; rintro e w7 ⟨v7, rfl, hv7, k7⟩
        have gg := grown_pre0 (k.trans k5) g6
        go_wp2_with fail
        go_ret
        exact ⟨_, rfl, hv7.mono gg.size, h6.keeps k7, grown_keeps gg k7⟩
      · have hnev : (UInt8.ofNat (112 + v) :: ([] ++ rest)).head? ≠ some (UInt8.ofNat 114) := by
          intro e2
          have := congrArg UInt8.toNat (Option.some.inj e2)
          rw [HB.out v hv6] at this
          simp at this; omega
        have HM := hid (take_miss (k := 114) (UInt8.ofNat 114) (h4.keeps k5) HD.out hnev rfl)
        clear hit hnev
        have He := hid e; clear e
        go_wp2_with fail
        refine HM.out.mono ?_; rintro e w6 ⟨rfl, h6, k6⟩
        have hi6 : w6.heap[w4.heap.size]? = some (.stringIter letters6 (2 + 1)) := (k6.block (by omega)).trans hi5
        go_wp2_with fail
        go_roundw
        case rel => exact ⟨2 + 1, by have := He.out; omega, hi6, k5.trans k6⟩
        case measure => simp [World.iterPos, hi6, hit0]
    · have hnx : ∀ ty, (Instr.next (.pointer (some ⟨w4.heap.size, 0, none⟩)) true ty).run Tryz.prog wr = _ := fun ty => run_next_at wr _ letters6 3 ty hit (by decide) (by decide)
      have k5 := kj.grown (grown_iter wr w4.heap.size letters6 (3 + 1)) (fun k hk => by cases hk; omega)
      have hi5 := iter_at (s' := letters6) (p' := 3 + 1) hgl
      have hit0 := hit
      have hs5 : (setIter wr w4.heap.size letters6 (3 + 1)).heap.size = wr.heap.size := by simp [setIter]
      by_cases e : 3 = v
      · subst e
        have HM := hid (take_hit (k := 115) (h4.keeps k5) HD.out rfl)
        clear hit
        go_wp2_with fail
        refine HM.out.mono ?_; rintro e w6 ⟨rfl, h6, g6⟩
        go_wp2_with fail
        refine (variable_any 3 _).mono ?_; rintro e w7 ⟨v7, rfl, hv7, k7⟩
        have gg := grown_pre0 (k.trans k5) g6
        go_wp2_with fail
        go_ret
        exact ⟨_, rfl, hv7.mono gg.size, h6.keeps k7, grown_keeps gg k7⟩
      · have hnev : (UInt8.ofNat (112 + v) :: ([] ++ rest)).head? ≠ some (UInt8.ofNat 115) := by
          intro e2
          have := congrArg UInt8.toNat (Option.some.inj e2)
          rw [HB.out v hv6] at this
          simp at this; omega
        have HM := hid (take_miss (k := 115) (UInt8.ofNat 115) (h4.keeps k5) HD.out hnev rfl)
        clear hit hnev
        have He := hid e; clear e
        go_wp2_with fail
        refine HM.out.mono ?_; rintro e w6 ⟨rfl, h6, k6⟩
        have hi6 : w6.heap[w4.heap.size]? = some (.stringIter letters6 (3 + 1)) := (k6.block (by omega)).trans hi5
        go_wp2_with fail
        go_roundw
        case rel => exact ⟨3 + 1, by have := He.out; omega, hi6, k5.trans k6⟩
        case measure => simp [World.iterPos, hi6, hit0]
    · have hnx : ∀ ty, (Instr.next (.pointer (some ⟨w4.heap.size, 0, none⟩)) true ty).run Tryz.prog wr = _ := fun ty => run_next_at wr _ letters6 4 ty hit (by decide) (by decide)
      have k5 := kj.grown (grown_iter wr w4.heap.size letters6 (4 + 1)) (fun k hk => by cases hk; omega)
      have hi5 := iter_at (s' := letters6) (p' := 4 + 1) hgl
      have hit0 := hit
      have hs5 : (setIter wr w4.heap.size letters6 (4 + 1)).heap.size = wr.heap.size := by simp [setIter]
      by_cases e : 4 = v
      · subst e
        have HM := hid (take_hit (k := 116) (h4.keeps k5) HD.out rfl)
        clear hit
        go_wp2_with fail
        refine HM.out.mono ?_; rintro e w6 ⟨rfl, h6, g6⟩
        go_wp2_with fail
        refine (variable_any 4 _).mono ?_; rintro e w7 ⟨v7, rfl, hv7, k7⟩
        have gg := grown_pre0 (k.trans k5) g6
        go_wp2_with fail
        go_ret
        exact ⟨_, rfl, hv7.mono gg.size, h6.keeps k7, grown_keeps gg k7⟩
      · have hnev : (UInt8.ofNat (112 + v) :: ([] ++ rest)).head? ≠ some (UInt8.ofNat 116) := by
          intro e2
          have := congrArg UInt8.toNat (Option.some.inj e2)
          rw [HB.out v hv6] at this
          simp at this; omega
        have HM := hid (take_miss (k := 116) (UInt8.ofNat 116) (h4.keeps k5) HD.out hnev rfl)
        clear hit hnev
        have He := hid e; clear e
        go_wp2_with fail
        refine HM.out.mono ?_; rintro e w6 ⟨rfl, h6, k6⟩
        have hi6 : w6.heap[w4.heap.size]? = some (.stringIter letters6 (4 + 1)) := (k6.block (by omega)).trans hi5
        go_wp2_with fail
        go_roundw
        case rel => exact ⟨4 + 1, by have := He.out; omega, hi6, k5.trans k6⟩
        case measure => simp [World.iterPos, hi6, hit0]
    · have hnx : ∀ ty, (Instr.next (.pointer (some ⟨w4.heap.size, 0, none⟩)) true ty).run Tryz.prog wr = _ := fun ty => run_next_at wr _ letters6 5 ty hit (by decide) (by decide)
      have k5 := kj.grown (grown_iter wr w4.heap.size letters6 (5 + 1)) (fun k hk => by cases hk; omega)
      have hi5 := iter_at (s' := letters6) (p' := 5 + 1) hgl
      have hit0 := hit
      have hs5 : (setIter wr w4.heap.size letters6 (5 + 1)).heap.size = wr.heap.size := by simp [setIter]
      by_cases e : 5 = v
      · subst e
        have HM := hid (take_hit (k := 117) (h4.keeps k5) HD.out rfl)
        clear hit
        go_wp2_with fail
        refine HM.out.mono ?_; rintro e w6 ⟨rfl, h6, g6⟩
        go_wp2_with fail
        refine (variable_any 5 _).mono ?_; rintro e w7 ⟨v7, rfl, hv7, k7⟩
        have gg := grown_pre0 (k.trans k5) g6
        go_wp2_with fail
        go_ret
        exact ⟨_, rfl, hv7.mono gg.size, h6.keeps k7, grown_keeps gg k7⟩
      · have hnev : (UInt8.ofNat (112 + v) :: ([] ++ rest)).head? ≠ some (UInt8.ofNat 117) := by
          intro e2
          have := congrArg UInt8.toNat (Option.some.inj e2)
          rw [HB.out v hv6] at this
          simp at this; omega
        have HM := hid (take_miss (k := 117) (UInt8.ofNat 117) (h4.keeps k5) HD.out hnev rfl)
        clear hit hnev
        have He := hid e; clear e
        go_wp2_with fail
        refine HM.out.mono ?_; rintro e w6 ⟨rfl, h6, k6⟩
        have hi6 : w6.heap[w4.heap.size]? = some (.stringIter letters6 (5 + 1)) := (k6.block (by omega)).trans hi5
        go_wp2_with fail
        go_roundw
        case rel => exact ⟨5 + 1, by have := He.out; omega, hi6, k5.trans k6⟩
        case measure => simp [World.iterPos, hi6, hit0]
end Go.Proofs.YtponaoefpicfpaaGreatDoor
/- Walks: the reference's reader of formulas, at all levels of the grammar. -/
namespace Go.Proofs.YtponaoefpicfpaaGreatDoor
open Go.RowKit
--
set_option maxRecDepth 20000 in
theorem l02Var_any (v : Nat) (w : World) : Calls Tryz.prog 57 #[.int .i64 v] w (RetN w (Fm.var v).enc) := by
  go_enter Tryz.func57, Tryz.ntmps57
  go_wp2
  go_ret
  exact ⟨_, rfl, OwnN.lit1 w ⟨0, v⟩, (Keeps.refl w).alloc _⟩
end Go.Proofs.YtponaoefpicfpaaGreatDoor
/- Lists of node lists that grow and are written; the identical substitution on both sides. -/
namespace Go.Proofs.YtponaoefpicfpaaGreatDoor
open Go.RowKit
theorem tyne : (42 : TypeId) ≠ 86 := by decide
theorem infoL : (Tryz.prog.info? 42).map (fun i => (i.zero, i.size, i.bytes)) = some (some (.slice none 0 0), 1, 24) := by kernel_rfl
theorem off_rows {w : World} {B B' : Nat} {v : Value} {n : Nat} {hs vs : List Value} {xs : List (List Nd)} (ho : w.ownsRow B 42 1 v n hs) (hr : RowsN w B' vs xs) : Off v vs := fun i hi k hk =>
  type_ne ho (hr.2 i hi (by have := hr.1; omega)) tyne hk
theorem OwnL.nil (w : World) (B : Nat) : OwnL w B (.slice none 0 0) [] := ⟨[], World.ownsRow_nil w B _ 1, RowsN.nil _ _, Apart.nil, Off.nil _⟩
theorem OwnL.empty (w : World) : OwnL (w.alloc (.cells #[] 42)) w.heap.size (.slice (some ⟨w.heap.size, 0, none⟩) 0 0) [] :=
  ⟨[], World.ownsRow_made w #[] 0 (Nat.le_refl _) (by simp [maxLen]) (by simp), RowsN.nil _ _, Apart.nil, Off.nil _⟩
theorem OwnL.snoc {w0 w w' : World} {B : Nat} {v v' u : Value} {xs : List (List Nd)} {x : List Nd} {vs : List Value} (hr : RowsN w0 B vs xs) (ha : Apart vs) (ho : w.ownsRow B 42 1 v xs.length vs) (k : Keeps w0 w) (hu : OwnN w w0.heap.size u x) (hB : B ≤ w0.heap.size)
    (ho' : w'.ownsRow B 42 1 v' (xs.length + 1) (vs ++ [u])) (hg : w.grownBy w' v.ownBlock) : OwnL w' B v' (xs ++ [x]) := by
  have hrw := hr.keeps k
  have hoff := off_rows ho hrw
  have hr' : RowsN w' B vs xs := hrw.touch (Touch.grown hg) (fun i hb e => hoff.not_blk e.symm hb)
  have hu' : OwnN w' B u x := (hu.touch (Touch.grown hg) (fun i hi e => type_ne ho hu tyne e.symm hi)).mono hB
  have hrows := RowsN.snoc hu' hr'
  refine ⟨vs ++ [u], by simpa using ho', hrows, Apart.snoc (fun i hi hb => ?_) ha, off_rows ho' hrows⟩
  have := (hu.len i hi).1
  have := (hr.lt hb).2
  omega
theorem appLK {w : World} {o : Oper} {a : Act} {K : Act → World → Prop} {Q : Exit → Act → World → Prop} (s x : Operand)
    (ho : o.op = .call { callee := .builtin .append, args := #[s, x], argTypes := #[76, 76] }) (base : Nat) (v : Value) (xs : List (List Nd)) (hs : a.eval s = v)
    (w0 : World) (hown : OwnL w0 base v xs) (k : Keeps w0 w) (u : Value) (y : List Nd) (hu : OwnN w w0.heap.size u y) (hbase : base ≤ w0.heap.size)
    (p : Option Addr) (c : Nat) (hx : a.eval x = .slice p 1 c) (hat : At w p [u]) (hlen : xs.length ≤ 2147483648)
    (h : ∀ v' w', OwnL w' base v' (xs ++ [y]) → w.grownBy w' v.ownBlock → (∀ k, v.ownBlock = some k → base ≤ k) → K (a.put o.dst v') w') : o.wp Tryz.prog a w K Q := by
  obtain ⟨i0, hi, hz0, hz1, hz2⟩ := info_parts infoL
  obtain ⟨vs, hrow, hr, ha, _⟩ := hown
  have hone : ∀ z ∈ [u], z.oneCell' = true := by
    intro z hz
    simp at hz; subst hz
    obtain ⟨p, c, e, _⟩ := At.of_own hu
    rw [e]; rfl
  have hrow' := own_keeps hrow k
  refine wp_append_at s x _ ho _ i0 _ 1 24 Tryz.underlying76 hi hz0 hz1 hz2 rfl (by decide) base v _ _ hs hrow' p 1 c [u] hx (by simp) hat hone (by unfold maxLen; omega) (by omega) (by have := k.size; omega) ?_
  intro v' w' h1 h2 h3
  exact h v' w' (OwnL.snoc hr ha hrow' k hu hbase h1 h2) h2 h3
theorem appL {w : World} {ops : Array Oper} {rest : List Oper} {o : Oper} {a : Act} {Q : Exit → Act → World → Prop} (hgd : o.guard = none) (s x : Operand)
    (ho : o.op = .call { callee := .builtin .append, args := #[s, x], argTypes := #[76, 76] }) (base : Nat) (v : Value) (xs : List (List Nd)) (hs : a.eval s = v)
    (w0 : World) (hown : OwnL w0 base v xs) (k : Keeps w0 w) (u : Value) (y : List Nd) (hu : OwnN w w0.heap.size u y) (hbase : base ≤ w0.heap.size)
    (p : Option Addr) (c : Nat) (hx : a.eval x = .slice p 1 c) (hat : At w p [u]) (hlen : xs.length ≤ 2147483648)
    (h : ∀ v' w', OwnL w' base v' (xs ++ [y]) → w.grownBy w' v.ownBlock → (∀ k, v.ownBlock = some k → base ≤ k) → wpList Tryz.prog ops Q rest (a.put o.dst v') w') : wpList Tryz.prog ops Q (o :: rest) a w :=
  wpList_plain hgd fun _ hK => appLK s x ho base v xs hs w0 hown k u y hu hbase p c hx hat hlen fun v' w' h1 h2 h3 => hK _ _ (h v' w' h1 h2 h3)
theorem OwnL.store {w0 w : World} {B : Nat} {v u : Value} {xs : List (List Nd)} {x : List Nd} (h : OwnL w0 B v xs) (k : Keeps w0 w) (hu : OwnN w w0.heap.size u x) (hB : B ≤ w0.heap.size) (i : Nat) (hi : i < xs.length) :
    ∃ g cap c, v = .slice (some ⟨g, 0, none⟩) xs.length cap ∧ B ≤ g ∧ g < w0.heap.size ∧ w.cell? ⟨g, i, none⟩ = some c ∧ w.frozen? ⟨g, i, none⟩ = false ∧ OwnL (w.setCell ⟨g, i, none⟩ u) B v (xs.set i x) ∧ w.grownBy (w.setCell ⟨g, i, none⟩ u) (some g) := by
  obtain ⟨vs, ho0, hr0, ha, _⟩ := h
  have hl := hr0.1
  obtain ⟨g, cap, e, hBg, hgl⟩ : ∃ g cap, v = .slice (some ⟨g, 0, none⟩) xs.length cap ∧ B ≤ g ∧ g < w0.heap.size := by
    rcases ho0.2 with ⟨_, h0⟩ | ⟨g, cap, cur, e, hb, hg, _⟩
    · omega
    · exact ⟨g, cap, e, hb, (Array.getElem?_eq_some_iff.1 hg).1⟩
  have ho := own_keeps ho0 k
  have hr := hr0.keeps k
  subst e
  have hst := ho.stored i u
  have hoff := off_rows ho hr
  have hlu := hu.len
  refine ⟨g, cap, vs[i]'(by omega), rfl, hBg, hgl, ?_, ho.frozenAt i, ?_, hst.2⟩
  · rw [ho.cellAt i (by omega)]; simp [show i < vs.length by omega]
  have hr' : RowsN (w.setCell ⟨g, i, none⟩ u) B vs xs := hr.touch (Touch.grown hst.2) (fun j hb e => hoff.not_blk (k := j) (by cases e; rfl) hb)
  have hu' : OwnN (w.setCell ⟨g, i, none⟩ u) B u x := (hu.touch (Touch.grown hst.2) (fun j hj e => type_ne ho hu tyne (k := j) (by cases e; rfl) hj)).mono hB
  have hrows : RowsN (w.setCell ⟨g, i, none⟩ u) B (vs.set i u) (xs.set i x) := ⟨by simp [hl], fun j h1 h2 => by
    by_cases e : i = j
    · subst e; simpa using hu'
    · rw [List.getElem_set_ne e, List.getElem_set_ne e]
      exact hr'.2 j (by simpa using h1) (by simpa using h2)⟩
  refine ⟨vs.set i u, by rw [List.length_set]; exact hst.1, hrows, ?_, off_rows hst.1 hrows⟩
  intro j l hj hl' hne q hq
  simp at hj hl'
  by_cases e1 : i = j
  · subst e1
    rw [List.getElem_set_ne hne]
    simp only [List.getElem_set_self] at hq
    intro e
    have := (hlu q hq).1
    have := (hr0.lt ⟨l, hl', e⟩).2
    omega
  · rw [List.getElem_set_ne e1] at hq
    by_cases e2 : i = l
    · subst e2
      simp only [List.getElem_set_self]
      intro e
      have := (hlu q e).1
      have := (hr0.lt ⟨j, hj, hq⟩).2
      omega
    · rw [List.getElem_set_ne e2]
      exact ha j l hj hl' hne q hq
/-- the identical substitution -/
def idL (n : Nat) : List (List Nd) := (List.range n).map fun v => (Fm.var v).enc
theorem idL_succ (n : Nat) : idL (n + 1) = idL n ++ [(Fm.var n).enc] := by simp [idL, List.range_succ]
theorem idL_len (n : Nat) : (idL n).length = n := by simp [idL]
theorem idL_tot (n : Nat) : tot (idL n) = n := by
  induction n with
  | zero => rfl
  | succ n ih => rw [idL_succ, tot_append, ih]; rfl
/-- an owned list of lists comes back -/
def RetL (w : World) (xs : List (List Nd)) (e : Ending) (w' : World) : Prop := ∃ v, e = .returned v ∧ OwnL w' w.heap.size v xs ∧ Keeps w w'
end Go.Proofs.YtponaoefpicfpaaGreatDoor
/- What returns a rule and an error; the laws of such functions. -/
namespace Go.Proofs.YtponaoefpicfpaaGreatDoor
open Go.RowKit
theorem At.touch {w w' : World} {S : Nat → Prop} {p : Option Addr} {vs : List Value} (h : At w p vs) (k : Touch w w' S) (hS : ∀ b off, p = some ⟨b, off, none⟩ → ¬ S b) : At w' p vs := fun j hj => by
  obtain ⟨b, off, hp, hc⟩ := h j hj
  exact ⟨b, off, hp, by rw [(k.cell (World.block_lt_of_cell? _ _ hc) (hS b off hp)).1]; exact hc⟩
def RetRE (w : World) (xs : List (List Nd)) (c : List Nd) (code : Int) (e : Ending) (w' : World) : Prop :=
  ∃ v u, e = .returned (.tuple #[.agg #[v, u], .int .i64 code]) ∧ OwnR w' w.heap.size v u xs c ∧ Keeps w w'
end Go.Proofs.YtponaoefpicfpaaGreatDoor
/- The readers of both sides read each formula's text: the functions that parse a text. -/
namespace Go.Proofs.YtponaoefpicfpaaGreatDoor
open Go.RowKit
theorem isFls_eq {b : Fm} (h : b.isFls = true) : b = .fls := by cases b <;> simp [Fm.isFls] at h <;> rfl
theorem lev3_cases {P : Fm → List UInt8 → Prop} (t : Fm) (hw : t.wf) (hl : t.lev = 3)
    (hv : ∀ v, v < 6 → P (.var v) [UInt8.ofNat (112 + v)]) (hf : P .fls [70]) (ht : P (.imp .fls .fls) [84])
    (hn : ∀ a, a.wf → a.enc.length < (Fm.imp a .fls).enc.length → P (.imp a .fls) (126 :: a.txt 3))
    (hb : ∀ a, a.wf → a.enc.length < (Fm.box a).enc.length → P (.box a) (91 :: 93 :: a.txt 3))
    (hd : ∀ a, a.wf → a.enc.length < (Fm.dia a).enc.length → P (.dia a) (60 :: 62 :: a.txt 3))
    : (∀ x : Fm, x.wf → x.enc.length < t.enc.length → True) → P t t.body := by
  intro _
  cases t with
  | var v => exact hv v hw
  | fls => exact hf
  | and a b => simp [Fm.lev] at hl
  | or a b => simp [Fm.lev] at hl
  | imp a b =>
    have hbf : b.isFls = true := by
      simp only [Fm.lev] at hl; split at hl
      · assumption
      · omega
    obtain rfl := isFls_eq hbf
    by_cases ha : a.isFls = true
    · obtain rfl := isFls_eq ha
      exact ht
    · have := hn a hw.1 (by simp only [Fm.enc, List.length_cons, List.length_append]; omega)
      have hb2 : (Fm.imp a .fls).body = 126 :: a.txt 3 := by
        show (if Fm.fls.isFls = true then (if a.isFls = true then [84] else _) else _) = _
        rw [if_pos (show Fm.fls.isFls = true from rfl), if_neg ha]
        rfl
      rw [hb2]
      exact this
  | box a => exact hb a hw (by simp only [Fm.enc, List.length_cons]; omega)
  | dia a => exact hd a hw (by simp only [Fm.enc, List.length_cons]; omega)
--
theorem implReads (t : Fm) (hw : t.wf) : Reads 244 0 t t.body := by
  have := (reads_all (fun l t X => Reads (match l with | 0 => 244 | 1 => 284 | 2 => 317 | _ => 342) l t X)
    (fun t hw hl hs => by
      have hs' : ∀ x : Fm, x.wf → x.enc.length < t.enc.length → Reads 342 3 x (x.txt 3) := hs
      clear hs
      refine lev3_cases (P := fun u X => (∀ x : Fm, x.wf → x.enc.length < u.enc.length → Reads 342 3 x (x.txt 3)) → Reads 342 3 u X) t hw hl
        (fun v hv _ => iVar v hv) (fun _ => iFls) (fun _ => iTru) (fun a h1 h2 h => iNot a (h a h1 h2)) (fun a h1 h2 h => iBox a (h a h1 h2)) (fun a h1 h2 h => iDia a (h a h1 h2)) (fun _ _ _ => trivial) hs')
    (fun t h => iPar t h) (fun x0 xs h hs => iAnd x0 xs h hs) (fun x0 xs h hs => iOr x0 xs h hs) (fun t X h => iImply0 t X h) (fun a b h1 h2 => iImply1 a b h1 h2) t.enc.length t (Nat.le_refl _) hw).1
  rw [Fm.txt0] at this
  exact this
theorem RdAt.new (w : World) (s : ByteArray) (T : TypeId) (hs : s.size ≤ 2147483648) : RdAt (w.alloc (.cells #[.string s, .int .i64 0, .bool false] T)) w.heap.size s 0 false :=
  ⟨by simp, by simp, by simp, by simp, by simp, Nat.zero_le _, hs⟩
--
set_option maxRecDepth 20000 in
set_option maxHeartbeats 1000000 in
theorem ParseFormula_any (t : Fm) (hw : t.wf) (s : ByteArray) (w : World) (hb : bts s = t.body) (hs : s.size ≤ 200) (hl : t.enc.length ≤ 40) :
    Calls Tryz.prog 166 #[.string s] w fun e w' => ∃ v, e = .returned (.tuple #[v, .int .i64 0, .int .i64 0]) ∧ OwnN w' w.heap.size v t.enc ∧ Keeps w w' := by
  have h0 := RdAt.new w s 198 (by omega)
  have hlen : t.body.length = s.size := by rw [← hb]; show s.data.toList.length = s.data.size; simp
  have HR := hid (implReads t hw _ _ s 0 [] h0 (by simpa using hb) ⟨fun _ => by simp, fun _ => by simp, fun _ => by simp⟩ (by omega))
  have hlt : decide ((s.size : Int) < s.size) = false := by simp
  have hs' : decide ((s.size : Int) > 200) = false := by simp; omega
  have k0 := (Keeps.refl w).alloc (.cells #[.string s, .int .i64 0, .bool false] 198)
  have HL := hid hlen; clear hlen
  clear hb h0
  go_enter Tryz.func166, Tryz.ntmps166
  go_wp2_with fail
  refine HR.out.mono ?_; rintro e w1 ⟨v1, rfl, hv1, h1, g1⟩
  rw [Nat.zero_add, HL.out] at h1
  have kw := k0.grown g1 (fun k hk => by cases hk; exact Nat.le_refl _)
  obtain ⟨c0, c1, c2, f1, f2, le, sz⟩ := h1
  obtain ⟨p1, n1, q1, rfl⟩ : ∃ p n c, v1 = .slice p n c := by obtain ⟨p, c, e, _⟩ := At.of_own hv1; exact ⟨p, _, c, e⟩
  have hn1 : n1 = t.enc.length := by obtain ⟨p, c, e, _⟩ := At.of_own hv1; cases e; rfl
  have hl1 : decide ((n1 : Int) > 40) = false := by simp; omega
  have HN1 := hid hn1; clear hn1
  go_wp2_with fail
  refine bodyPost_ret (v := .tuple #[.slice p1 n1 q1, .int .i64 0, .int .i64 0]) (by simp [results, Tryz.results166, go_sem]) rfl ?_
  exact ⟨_, rfl, hv1.mono (by simp), kw⟩
--
theorem parsed_any (t : Fm) (hw : t.wf) (s : ByteArray) (w : World) (hb : bts s = t.body) (hs : s.size ≤ 200) (hl : t.enc.length ≤ 40) :
    Calls Tryz.prog 81 #[.string s] w (RetN w t.enc) := by
  have HR := hid (ParseFormula_any t hw s w hb hs hl)
  clear hb hs hl
  go_enter Tryz.func81, Tryz.ntmps81
  go_wp2_with fail
  refine HR.out.mono ?_; rintro e w1 ⟨v1, rfl, hv1, k1⟩
  go_wp2_with fail
  go_ret
  exact ⟨_, rfl, hv1, k1⟩
end Go.Proofs.YtponaoefpicfpaaGreatDoor
/- Walks: Visser's rules on both sides. -/
namespace Go.Proofs.YtponaoefpicfpaaGreatDoor
open Go.RowKit
theorem OwnR.touch {w w' : World} {S : Nat → Prop} {B : Nat} {v u : Value} {xs : List (List Nd)} {c : List Nd} (h : OwnR w B v u xs c) (k : Touch w w' S) (hS : ∀ i, B ≤ i → ¬ S i) : OwnR w' B v u xs c := by
  obtain ⟨vs, ho, hr, ha, hf⟩ := h
  exact ⟨vs, own_touch ho k (fun i e => hS i (World.ownsRow.lt ho i e).1), hr.touch k (fun i e => hS i (hr.lt e).1), ha, hf⟩
theorem OwnR.setBelow {w : World} {B : Nat} {v u : Value} {xs : List (List Nd)} {c : List Nd} (h : OwnR w B v u xs c) {b o : Nat} (hb : b < B) (x : Value) : OwnR (w.setCell ⟨b, o, none⟩ x) B v u xs c :=
  h.touch (Touch.grown (grown_set b o x)) (fun i hi e => by cases e; omega)
theorem OwnR.mk1 {w1 w2 : World} {B : Nat} {v1 u : Value} {x c : List Nd} (h1 : OwnN w1 B v1 x) (hB : B ≤ w1.heap.size) (kk : Keeps (w1.alloc (.cells #[v1] 42)) w2) (h2 : OwnN w2 (w1.heap.size + 1) u c) :
    OwnR w2 B (.slice (some ⟨w1.heap.size, 0, none⟩) 1 1) u [x] c := by
  have k1 := ((Keeps.refl w1).alloc (.cells #[v1] 42)).trans kk
  have hv := h1.len
  refine ⟨[v1], ?_, RowsN.cons (h2.mono (by omega)) (RowsN.cons (h1.keeps k1) (RowsN.nil _ _)), Apart.cons (fun i hi k hk e => ?_) (Apart.cons (Off.nil _) Apart.nil), fun i hi k hk e => ?_⟩
  · have : (w1.alloc (.cells #[v1] 42)).ownsRow B 42 1 (.slice (some ⟨w1.heap.size, 0, none⟩) 1 1) 1 [v1] :=
      ⟨rfl, .inr ⟨w1.heap.size, 1, _, rfl, hB, heap_alloc_new w1 _, Nat.le_refl _, by simp [maxLen], rfl, rfl⟩⟩
    exact own_keeps this kk
  · obtain rfl : i = 0 := by simp at hi; omega
    have := (h2.len k hk).1
    have := (hv k e).2
    omega
  · have hk' : k = w1.heap.size := by simp [Value.ownBlock] at hk; exact hk.symm
    subst hk'
    cases i with
    | zero => have := (h2.len _ e).1; omega
    | succ i =>
      obtain rfl : i = 0 := by simp at hi; omega
      have := (hv _ e).2; omega
namespace Vr
def p : Fm := .var 0
def q : Fm := .var 1
def r : Fm := .var 2
def s : Fm := .var 3
def t : Fm := .var 4
def u : Fm := .var 5
def x1 : Fm := .imp p q
def x2 : Fm := .and (.imp p q) (.imp r s)
def p1 : Fm := .imp x1 (.or r s)
def c1 : Fm := .or (.or (.imp x1 p) (.imp x1 r)) (.imp x1 s)
def p2 : Fm := .imp x2 (.or t u)
def c2 : Fm := .or (.or (.or (.imp x2 p) (.imp x2 r)) (.imp x2 t)) (.imp x2 u)
end Vr
def visP (n : Int) : List (List Nd) := if n = 1 then [Vr.p1.enc] else if n = 2 then [Vr.p2.enc] else []
def visC (n : Int) : List Nd := if n = 1 then Vr.c1.enc else if n = 2 then Vr.c2.enc else []
def visE (n : Int) : Int := if n = 1 then 0 else if n = 2 then 0 else 2
theorem vis_wf : Vr.p1.wf ∧ Vr.c1.wf ∧ Vr.p2.wf ∧ Vr.c2.wf := by
  simp [Fm.wf, Vr.p1, Vr.c1, Vr.p2, Vr.c2, Vr.x1, Vr.x2, Vr.p, Vr.q, Vr.r, Vr.s, Vr.t, Vr.u]
theorem vis_len (n : Int) : (visP n).length ≤ 1000 ∧ tot (visP n) + (visC n).length ≤ 1000 := by
  unfold visP visC
  split
  · decide +kernel
  · split <;> decide +kernel
end Go.Proofs.YtponaoefpicfpaaGreatDoor
/- Walks: the laws' sizes and copies of lists of node lists and of rules. -/
namespace Go.Proofs.YtponaoefpicfpaaGreatDoor
open Go.RowKit
/-- a list of lists whose lengths are known -/
def LenL (w : World) (v : Value) (ns : List Nat) : Prop := SlC 1 (fun _ f (n : Nat) => ∃ p cap, f 0 = .slice p n cap ∧ n ≤ maxLen) w v ns
theorem LenL.keeps {w w' : World} {v : Value} {ns : List Nat} (h : LenL w v ns) (k : Keeps w w') : LenL w' v ns := SlC.keeps (fun _ _ _ _ _ h => h) h k
theorem NdsL.lens {w : World} {v : Value} {xs : List (List Nd)} (h : NdsL w v xs) : LenL w v (xs.map List.length) := by
  obtain ⟨p, cap, hv, h1, h2, h3, h4⟩ := h
  refine ⟨p, cap, by simpa using hv, by simpa using h1, h2, by simpa using h3, fun i hi => ?_⟩
  obtain ⟨b, off, f, hp, hc, hr⟩ := h4 i (by simpa using hi)
  refine ⟨b, off, f, hp, hc, ?_⟩
  obtain ⟨p', cap', e, h5, h6, _⟩ := hr
  exact ⟨p', cap', by simpa using e, by simp; omega⟩
def szF : Int → List Nat → Int
  | l, [] => l
  | l, n :: ns => if l < n then -1 else szF (l - n) ns
def sumN : List Nat → Nat
  | [] => 0
  | n :: ns => n + sumN ns
theorem szF_eq (ns : List Nat) : ∀ l : Int, 0 ≤ l → szF l ns = if l < sumN ns then -1 else l - sumN ns := by
  induction ns with
  | nil => intro l h; simp [szF, sumN]; omega
  | cons n ns ih =>
    intro l h
    have e : (sumN (n :: ns) : Int) = n + sumN ns := by simp [sumN]
    rw [e]
    simp only [szF]
    split
    · rw [if_pos (by omega)]
    · rw [ih _ (by omega)]
      split
      · rw [if_pos (by omega)]
      · rw [if_neg (by omega)]; omega
theorem sumN_tot (xs : List (List Nd)) : sumN (xs.map List.length) = tot xs := by
  induction xs with
  | nil => rfl
  | cons x xs ih => simp [sumN, tot, ih]
end Go.Proofs.YtponaoefpicfpaaGreatDoor
/- The laws of functions that answer a bool and an error. -/
namespace Go.Proofs.YtponaoefpicfpaaGreatDoor
open Go.RowKit
--
theorem eqNodeS_same' (a : List Nd) (v v' : Value) (w : World) (hv : Nds w v a) (hv' : Nds w v' a) :
    Calls Tryz.prog 23 #[v, v'] w fun e w' => e = .returned (.bool true) ∧ Keeps w w' := by
  have h := eqNodeS_any a a v v' w hv hv'
  rw [decide_eq_true rfl] at h
  exact h
end Go.Proofs.YtponaoefpicfpaaGreatDoor
/- Walks: marks put into owned node lists, lists of lists, and rules, while other memory may have been written. -/
namespace Go.Proofs.YtponaoefpicfpaaGreatDoor
open Go.RowKit
--
theorem OwnN.low {w w' : World} {B : Nat} {v : Value} {x : List Nd} (h : OwnN w B v x) (k : Low w w' B) : OwnN w' B v x := h.touch k (fun i hi => by have := (h.len i hi).1; omega)
theorem OwnN.lowOf {w0 w : World} {B : Nat} {v : Value} {x : List Nd} (h : OwnN w0 B v x) (k : Keeps w0 w) : Low w0 w B := by have _ := h; exact Low.of k B
theorem markN_t (a : List Nd) (v : Value) (k0 : Int) (w0 w : World) (B : Nat) (hv : OwnN w0 B v a) (k : Low w0 w B) (hl : a.length ≤ 2147483648) (hk0 : 0 ≤ k0) (hk1 : k0 ≤ 4294967296) :
    Calls Tryz.prog 26 #[v, .int .i64 k0] w fun e w' => e = .returned (.int .i64 (k0 + 2 * a.length)) ∧ OwnN w' B v (marksN a.length k0) ∧ Touch w w' (fun i => B ≤ i ∧ i < w0.heap.size) := by
  have hlen := hv.len
  refine (markNodeS_any a v k0 w B (hv.low k) hl hk0 hk1).mono ?_
  rintro e w' ⟨rfl, ho, g⟩
  exact ⟨rfl, ho, (Touch.grown g).mono (fun i hi => hlen i hi.symm)⟩
end Go.Proofs.YtponaoefpicfpaaGreatDoor
