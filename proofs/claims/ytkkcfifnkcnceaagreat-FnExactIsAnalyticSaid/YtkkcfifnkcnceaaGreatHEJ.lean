import Derived.Test.YtkkcfifnkcnceaaGreatHPY
import Derived.Test.YtkkcfifnkcnceaaGreatHMV
import Derived.Test.YtkkcfifnkcnceaaGreatHRN
import Derived.Test.YtkkcfifnkcnceaaGreatHRP
/- The premises of a rule of modal sequents as one function of texts; if they are theorems, so is what the rule concludes. No program in sight. -/
namespace Go.Proofs.YtkkcfifnkcnceaaGreat
open Go.RowKit
abbrev Sq2 := List ByteArray × List ByteArray
def isAn : Fm → Bool
 | .and _ _ => true
 | _ => false
def isOr : Fm → Bool
 | .or _ _ => true
 | _ => false
def isIm : Fm → Bool
 | .imp _ _ => true
 | _ => false
def fst2 : Fm → Fm
 | .and a _ => a
 | .or a _ => a
 | .imp a _ => a
 | t => t
def snd2 : Fm → Fm
 | .and _ b => b
 | .or _ b => b
 | .imp _ b => b
 | t => t
noncomputable def pa1 (s : ByteArray) : ByteArray := txS (fst2 (txF s))
noncomputable def pa2 (s : ByteArray) : ByteArray := txS (snd2 (txF s))
noncomputable def paI (s : ByteArray) : ByteArray := txS (below (txF s))
def inS (ss : List ByteArray) (s : ByteArray) : Bool := ss.any fun u => decide (u = s)
theorem inS_iff {ss : List ByteArray} {s : ByteArray} : inS ss s = true ↔ s ∈ ss := by
 unfold inS
 rw [List.any_eq_true]
 exact ⟨fun ⟨u, hu, e⟩ => by rw [← of_decide_eq_true e]; exact hu, fun h => ⟨s, h, decide_eq_true rfl⟩⟩
noncomputable def onS (ss : List ByteArray) (main : ByteArray) (p : Fm → Bool) : Bool := inS ss main && p (txF main)
noncomputable def mopL (L : Nat) (ss : List ByteArray) (main : ByteArray) : List ByteArray := kepS L isBx ss main
noncomputable def mopR (L : Nat) (tt : List ByteArray) (main : ByteArray) : List ByteArray := kepS L isDi tt main
noncomputable def moBx (L : Nat) (ss tt : List ByteArray) (main : ByteArray) : Sq2 := (if L = 5 then insS (mopL L ss main) main else mopL L ss main, insS (mopR L tt main) (paI main))
noncomputable def moDi (L : Nat) (ss tt : List ByteArray) (main : ByteArray) : Sq2 := (insS (mopL L ss main) (paI main), if L = 5 then insS (mopR L tt main) main else mopR L tt main)
def rfL (L : Nat) : Bool := decide (L = 2 ∨ L = 4 ∨ L = 6)
noncomputable def preR (L r : Nat) (ss tt : List ByteArray) (main : ByteArray) : Option (List Sq2) :=
 if r = 1 then (if inS ss main && inS tt main then some [] else none)
 else if r = 2 then (if decide (main = ⟨#[]⟩) && inS ss (txS .fls) then some [] else none)
 else if r = 3 then (if onS ss main isAn then some [(insS (insS (remS ss main) (pa1 main)) (pa2 main), tt)] else none)
 else if r = 4 then (if onS tt main isAn then some [(ss, insS (remS tt main) (pa1 main)), (ss, insS (remS tt main) (pa2 main))] else none)
 else if r = 5 then (if onS ss main isOr then some [(insS (remS ss main) (pa1 main), tt), (insS (remS ss main) (pa2 main), tt)] else none)
 else if r = 6 then (if onS tt main isOr then some [(ss, insS (insS (remS tt main) (pa1 main)) (pa2 main))] else none)
 else if r = 7 then (if onS ss main isIm then some [(remS ss main, insS tt (pa1 main)), (insS (remS ss main) (pa2 main), tt)] else none)
 else if r = 8 then (if onS tt main isIm then some [(insS ss (pa1 main), insS (remS tt main) (pa2 main))] else none)
 else if r = 9 then (if onS ss main isBx && rfL L then some [(insS ss (paI main), tt)] else none)
 else if r = 10 then (if onS tt main isDi && rfL L then some [(ss, insS tt (paI main))] else none)
 else if r = 11 then (if onS tt main isBx then some [moBx L ss tt main] else if onS ss main isDi then some [moDi L ss tt main] else none)
 else if r = 12 then (if decide (main = ⟨#[]⟩) && decide (L = 1) then some [(mopL L ss main, mopR L tt main)] else none)
 else if r = 14 then (if isTx main then some [(ss, insS tt main), (insS ss main, tt)] else none)
 else none
theorem on_at {ss : List ByteArray} {main : ByteArray} {p : Fm → Bool} (h : onS ss main p = true) : main ∈ ss ∧ txF main ∈ fmL ss ∧ p (txF main) = true := by
 unfold onS at h
 rw [Bool.and_eq_true, inS_iff] at h
 exact ⟨h.1, fmL_mem.2 ⟨main, h.1, rfl⟩, h.2⟩
theorem remS_asc {ss : List ByteArray} {s : ByteArray} (h : Asc (ss.map bts)) : Asc ((remS ss s).map bts) := by
 unfold remS Asc at *
 rw [List.pairwise_map] at *
 exact h.filter _
theorem remS_side {ss : List ByteArray} {s : ByteArray} (h : Side ss) : Side (remS ss s) := ⟨fun u hu => h.1 u (List.mem_filter.1 hu).1, remS_asc h.2⟩
theorem insS_side {ss : List ByteArray} {s : ByteArray} (h : Side ss) (hs : ∃ t, IsTx s t) : Side (insS ss s) := ⟨fun u hu => by
 rcases insS_in.1 hu with hu | rfl
 ·exact h.1 u hu
 ·exact hs, insS_asc s h.2⟩
theorem kdS_side {p : Fm → Bool} {ss : List ByteArray} (h : Side ss) : Side (kdS p ss) := ⟨fun u hu => h.1 u (List.mem_filter.1 hu).1, by
 have h2 := h.2
 unfold kdS Asc at *
 rw [List.pairwise_map] at *
 exact h2.filter _⟩
theorem uniS_side {tt : List ByteArray} : ∀ {ss : List ByteArray}, Side ss → (∀ u ∈ tt, ∃ t, IsTx u t) → Side (uniS ss tt) := by
 induction tt with
 | nil => exact fun h _ => h
 | cons t tt ih => exact fun h k => ih (insS_side h (k t (by simp))) (fun u hu => k u (List.mem_cons_of_mem _ hu))
theorem fold_side {f : ByteArray → ByteArray} : ∀ (l : List ByteArray) (out : List ByteArray), Side out → (∀ s ∈ l, ∃ t, IsTx (f s) t) → Side (l.foldl (fun out s => insS out (f s)) out)
 | [], _, h, _ => h
 | s :: l, out, h, k => fold_side l (insS out (f s)) (insS_side h (k s (by simp))) (fun u hu => k u (List.mem_cons_of_mem _ hu))
theorem part_tx {ss : List ByteArray} (h : Side ss) {s : ByteArray} (hs : s ∈ ss) {y : Fm} (hy : y ∈ subs (txF s)) : ∃ t, IsTx (txS y) t := by
 have := side_tx h hs
 exact ⟨y, txS_tx (subs_wf this.1 y hy) (Nat.le_trans (subs_le y hy) this.2.2)⟩
theorem below_in (t : Fm) : below t ∈ subs t := by cases t <;> simp [below, subs, subs_self]
theorem ofS_side {p : Fm → Bool} {ss : List ByteArray} (h : Side ss) : Side (ofS p ss) := by
 refine fold_side _ _ ⟨fun s hs => by simp at hs, by simp [Asc]⟩ fun s hs => part_tx h (List.mem_filter.1 hs).1 (below_in _)
theorem kepS_side {L : Nat} {p : Fm → Bool} {ss : List ByteArray} {main : ByteArray} (h : Side ss) : Side (kepS L p ss main) := by
 unfold kepS
 split
 ·exact uniS_side (ofS_side h) (kdS_side h).1
 ·split
  ·exact kdS_side h
  ·split
   ·exact remS_side (uniS_side (kdS_side h) (kdS_side h).1)
   ·exact ofS_side h
end Go.Proofs.YtkkcfifnkcnceaaGreat
namespace Go.Proofs.YtkkcfifnkcnceaaGreat
open Go.RowKit
theorem lgS_injM : ∀ a b : Fin 8, lgS a.1 = lgS b.1 → a = b := by decide
theorem nm_of {L : Nat} (h : L < 8) : lgN (lgS L) = L := by
 obtain ⟨h1, h2⟩ := lgN_spec (isLg_lgS L h)
 have := lgS_injM ⟨L, h⟩ ⟨lgN (lgS L), h1⟩ h2
 exact (congrArg Fin.val this).symm
theorem nmEq (s : ByteArray) (k : Nat) (h1 : 1 ≤ k) (h7 : k ≤ 7) : (s.toList == (lgS k).data.toList) = decide (lgN s = k) := by
 rw [Bool.eq_iff_iff, beq_iff_eq, decide_eq_true_eq, ByteArray.toList_eq]
 constructor
 ·intro h
  have hs : s = lgS k := by
   cases s
   have := Array.toList_inj.1 h
   simp only at this
   rw [this]
  rw [hs]
  exact nm_of (by omega)
 ·intro h
  by_cases hl : isLg s = true
  ·have := (lgN_spec hl).2
   rw [h] at this
   rw [this]
  ·exfalso
   unfold lgN at h
   rw [dif_neg hl] at h
   omega
theorem nmD (s : ByteArray) : (s.toList == [68]) = decide (lgN s = 1) := nmEq s 1 (by omega) (by omega)
theorem nmT (s : ByteArray) : (s.toList == [84]) = decide (lgN s = 2) := nmEq s 2 (by omega) (by omega)
theorem nmK4 (s : ByteArray) : (s.toList == [75, 52]) = decide (lgN s = 3) := nmEq s 3 (by omega) (by omega)
theorem nmS4 (s : ByteArray) : (s.toList == [83, 52]) = decide (lgN s = 4) := nmEq s 4 (by omega) (by omega)
theorem nmGL (s : ByteArray) : (s.toList == [71, 76]) = decide (lgN s = 5) := nmEq s 5 (by omega) (by omega)
theorem nmS5 (s : ByteArray) : (s.toList == [83, 53]) = decide (lgN s = 6) := nmEq s 6 (by omega) (by omega)
theorem kind_an (t : Fm) : decide (t.kind = 2) = isAn t := by cases t <;> rfl
theorem kind_or (t : Fm) : decide (t.kind = 3) = isOr t := by cases t <;> rfl
theorem kind_im (t : Fm) : decide (t.kind = 4) = isIm t := by cases t <;> rfl
theorem kind_bx (t : Fm) : decide (t.kind = 5) = isBx t := by cases t <;> rfl
theorem kind_di (t : Fm) : decide (t.kind = 6) = isDi t := by cases t <;> rfl
def isKd (k : Int) (t : Fm) : Bool := decide (t.kind = k)
theorem isKd_an : isKd 2 = isAn := funext kind_an
theorem isKd_or : isKd 3 = isOr := funext kind_or
theorem isKd_im : isKd 4 = isIm := funext kind_im
theorem isKd_bx : isKd 5 = isBx := funext kind_bx
theorem isKd_di : isKd 6 = isDi := funext kind_di
theorem remS_no {ss : List ByteArray} {s : ByteArray} {k : Nat} (h : k < ss.length) : remS (ss.take (k + 1)) s = remS (ss.take k) s ++ (if ss[k] ≠ s then [ss[k]] else []) := by
 unfold remS
 rw [List.take_succ_eq_append_getElem h, List.filter_append, List.filter_cons]
 simp
theorem kdS_take {p : Fm → Bool} {ss : List ByteArray} {k : Nat} (h : k < ss.length) : kdS p (ss.take (k + 1)) = kdS p (ss.take k) ++ (if p (txF ss[k]) then [ss[k]] else []) := by
 unfold kdS
 rw [List.take_succ_eq_append_getElem h, List.filter_append, List.filter_cons]
 simp
theorem ofS_take {p : Fm → Bool} {ss : List ByteArray} {k : Nat} (h : k < ss.length) : ofS p (ss.take (k + 1)) = if p (txF ss[k]) then insS (ofS p (ss.take k)) (paI ss[k]) else ofS p (ss.take k) := by
 unfold ofS
 rw [kdS_take h, List.foldl_append]
 split <;> rfl
theorem remS_len (ss : List ByteArray) (s : ByteArray) : (remS ss s).length ≤ ss.length := List.length_filter_le _ _
theorem kdS_len (p : Fm → Bool) (ss : List ByteArray) : (kdS p ss).length ≤ ss.length := List.length_filter_le _ _
theorem fold_len {f : ByteArray → ByteArray} : ∀ (l : List ByteArray) (out : List ByteArray), (l.foldl (fun out s => insS out (f s)) out).length ≤ out.length + l.length
 | [], out => by simp
 | s :: l, out => by
  have h1 := fold_len l (insS out (f s)) (f := f)
  have h2 := insS_len out (f s)
  rw [List.foldl_cons]
  simp
  omega
theorem ofS_len (p : Fm → Bool) (ss : List ByteArray) : (ofS p ss).length ≤ ss.length := by
 have h := fold_len (f := fun s => txS (below (txF s))) (kdS p ss) []
 have h2 := kdS_len p ss
 unfold ofS
 simp at h
 omega
theorem uniS_len (ss tt : List ByteArray) : (uniS ss tt).length ≤ ss.length + tt.length := fold_len (f := fun s => s) tt ss
theorem kepS_len (L : Nat) (p : Fm → Bool) (ss : List ByteArray) (main : ByteArray) : (kepS L p ss main).length ≤ 2 * ss.length := by
 unfold kepS
 have h1 := ofS_len p ss
 have h2 := kdS_len p ss
 have h3 := kdS_len isBx ss
 have h4 := kdS_len isDi ss
 split
 ·have := uniS_len (ofS p ss) (kdS p ss); omega
 ·split
  ·omega
  ·split
   ·have := remS_len (uniS (kdS isBx ss) (kdS isDi ss)) main
    have := uniS_len (kdS isBx ss) (kdS isDi ss)
    omega
   ·omega
end Go.Proofs.YtkkcfifnkcnceaaGreat
namespace Go.Proofs.YtkkcfifnkcnceaaGreat
open Go.RowKit
def RetSR (w : World) (r : List ByteArray) (e : Ending) (w' : World) : Prop := ∃ v, e = .returned v ∧ StrsP w' v r ∧ Keeps w w'
theorem strsNil (w : World) (c : Nat) (hc : c ≤ maxLen) : Strs w (.slice none 0 c) [] := ⟨none, c, rfl, by simp, hc, by simp, fun i h => by simp at h⟩
set_option maxRecDepth 20000 in
set_option maxHeartbeats 2000000 in
theorem l02InsertR_some (ss : List ByteArray) (b off n cap : Nat) (s : ByteArray) (w : World) (hv : Strs w (.slice (some ⟨b, off, none⟩) n cap) ss) (hn : ss.length ≤ 1000000) :
  Calls Tryz.prog 55 #[.slice (some ⟨b, off, none⟩) n cap, .string s] w (RetSR w (insS ss s)) := by
 have HV := hid hv
 have hst := hv
 obtain ⟨p', c', e, hnc, hcm, hat, _⟩ := hst.at
 cases e
 unfold maxLen at hcm
 have HST := hid hst; clear hst hv
 have HAT := hid hat; clear hat
 have HINS := hid (insS_at ss s)
 go_enter Tryz.func55, Tryz.ntmps55
 go_wp2
 go_loop [5] (fun i' => ∃ k : Nat, k ≤ ss.length ∧ i' = .int .i64 k ∧ (∀ j (h : j < ss.length), j < k → bts ss[j] < bts s)) (fun i => ss.length - (intOf i).toNat)
 case atStart => exact ⟨0, by omega, rfl, fun j _ h => by omega⟩
 case round =>
  obtain ⟨k, hk, rfl, hbef⟩ := hrel
  have HBF := hid hbef; clear hbef
  by_cases hlt : k < ss.length
  ·have hlt' : (k : Int) < ss.length := by omega
   obtain ⟨b', off', e, hc⟩ := HST.out.get k hlt
   cases e
   have hlb := less_bts ss[k] s
   have heb := beq_bts ss[k] s
   cases hless : Op.bytesLess ss[k].toList s.toList with
   | true =>
    rw [hless] at hlb
    have HN : Hid (∀ j (h : j < ss.length), j < k + 1 → bts ss[j] < bts s) := hid (fun j h hj => by
     by_cases e : j = k
     ·subst e; exact of_decide_eq_true hlb.symm
     ·exact HBF.out j h (by omega))
    clear hlb heb
    generalize ss[k] = x at *
    go_wp2
    go_round
    case rel => exact ⟨k + 1, by omega, by go_num, HN.out⟩
    case measure => simp [intOf]; omega
   | false =>
    rw [hless] at hlb
    have hI := HINS.out k hk HBF.out (fun _ => of_decide_eq_false hlb.symm)
    cases heq : (ss[k].toList == s.toList) with
    | true =>
     rw [heq] at heb
     have HM : Hid (insS ss s = ss) := hid (by rw [hI, if_pos ⟨hlt, bts_inj (of_decide_eq_true heb.symm)⟩])
     clear hlb heb hI
     generalize ss[k] = x at *
     go_wp2
     go_ret
     exact ⟨_, rfl, by rw [HM.out]; exact ⟨HV.out, PlS.at _ _ _ _⟩, Keeps.refl _⟩
    | false =>
     rw [heq] at heb
     have HM : Hid (insS ss s = ss.take k ++ [s] ++ ss.drop k) := hid (by
      rw [hI, if_neg (fun ⟨_, e⟩ => of_decide_eq_false heb.symm (by rw [e]))])
     clear hlb heb hI
     generalize ss[k] = x at *
     have HU1 := hid (show Strs (w.alloc (.cells #[] 9)) (.slice (some ⟨b, off, none⟩) k cap) (ss.take k) from by
      have h1 := HAT.out
      refine (strs_of (by simp; omega) (by unfold maxLen; omega) (at_take h1 k) ⟨by simp; omega, by simp; omega⟩).keeps ((Keeps.refl w).alloc _))
     have HU3 := hid (fun w3 (k3 : Keeps w w3) => (show Strs w3 (.slice (some ⟨b, off + k, none⟩) (ss.length - k) (cap - k)) (ss.drop k) from by
      have h1 := (show At w (some ⟨b, off + k, none⟩) ((strCells ss).drop k) from HAT.out.drop k rfl)
      exact (strs_of (by simp) (by unfold maxLen; omega) (at_drop h1) ⟨by simp; omega, by simp; omega⟩).keeps k3))
     go_wp2_with (at_builtin; first
      | (refine appS rfl (.tmp 34) (.tmp 37) rfl w.heap.size _ [] rfl (OwnS.empty w) _ (ss.take k) rfl HU1.out (by simp) (by simp; omega) ?_; intro v2 w2 hv2 hg2 hr2; have k2 : Keeps w w2 := ((Keeps.refl w).alloc _).grown hg2 (fun q hq => hr2 q hq); have hs2 := k2.size)
      | (refine appS rfl (.tmp 39) (.tmp 41) rfl w.heap.size _ ([] ++ ss.take k) rfl (hv2.keeps ((Keeps.refl w2).alloc _)) _ [s] rfl (Strs.lit1 w2 s) (by simp; omega) (by simp; omega) ?_; intro v3 w3 hv3 hg3 hr3; have k3 : Keeps w w3 := (k2.alloc _).grown hg3 (fun q hq => hr3 q hq); have hs3 := k3.size)
      | (refine appS rfl (.tmp 43) (.tmp 46) rfl w.heap.size _ ([] ++ ss.take k ++ [s]) rfl hv3 _ (ss.drop k) rfl (HU3.out w3 k3) (by omega) (by simp; omega) ?_; intro v4 w4 hv4 hg4 hr4; have k4 : Keeps w w4 := k3.grown hg4 (fun q hq => hr4 q hq)))
     go_ret
     exact ⟨_, rfl, by rw [HM.out]; simpa using hv4.strsP (by simp; omega), k4⟩
  ·have hlt' : ¬ ((k : Int) < ss.length) := by omega
   have HM : Hid (insS ss s = ss.take k ++ [s] ++ ss.drop k) := hid (by
    rw [HINS.out k hk HBF.out (fun h => absurd h hlt), if_neg (fun ⟨h, _⟩ => hlt h)])
   have HU1 := hid (show Strs (w.alloc (.cells #[] 9)) (.slice (some ⟨b, off, none⟩) k cap) (ss.take k) from by
    have h1 := HAT.out
    refine (strs_of (by simp; omega) (by unfold maxLen; omega) (at_take h1 k) ⟨by simp; omega, by simp; omega⟩).keeps ((Keeps.refl w).alloc _))
   obtain ⟨q, hq, hrun⟩ := tailS b off ss.length cap k (k : Int) rfl hk hnc
   have HU3 := hid (fun w3 (k3 : Keeps w w3) => (show Strs w3 (.slice q (ss.length - k) (cap - k)) (ss.drop k) from by
    have h1 := hq w (strCells ss) HAT.out (by simp [strCells])
    exact (strs_of (by simp) (by unfold maxLen; omega) (at_drop h1) ⟨by simp; omega, by simp; omega⟩).keeps k3))
   clear hq
   go_wp2_with (at_builtin; first
    | (refine appS rfl (.tmp 34) (.tmp 37) rfl w.heap.size _ [] rfl (OwnS.empty w) _ (ss.take k) rfl HU1.out (by simp) (by simp; omega) ?_; intro v2 w2 hv2 hg2 hr2; have k2 : Keeps w w2 := ((Keeps.refl w).alloc _).grown hg2 (fun q hq => hr2 q hq); have hs2 := k2.size)
    | (refine appS rfl (.tmp 39) (.tmp 41) rfl w.heap.size _ ([] ++ ss.take k) rfl (hv2.keeps ((Keeps.refl w2).alloc _)) _ [s] rfl (Strs.lit1 w2 s) (by simp; omega) (by simp; omega) ?_; intro v3 w3 hv3 hg3 hr3; have k3 : Keeps w w3 := (k2.alloc _).grown hg3 (fun q hq => hr3 q hq); have hs3 := k3.size)
    | (refine appS rfl (.tmp 43) (.tmp 46) rfl w.heap.size _ ([] ++ ss.take k ++ [s]) rfl hv3 _ (ss.drop k) rfl (HU3.out w3 k3) (by omega) (by simp; omega) ?_; intro v4 w4 hv4 hg4 hr4; have k4 : Keeps w w4 := k3.grown hg4 (fun q hq => hr4 q hq)))
   go_ret
   exact ⟨_, rfl, by rw [HM.out]; simpa using hv4.strsP (by simp; omega), k4⟩
set_option maxRecDepth 20000 in
set_option maxHeartbeats 2000000 in
theorem l02InsertR_none (c : Nat) (s : ByteArray) (w : World) (hc : c ≤ maxLen) : Calls Tryz.prog 55 #[.slice none 0 c, .string s] w (RetSR w (insS [] s)) := by
 unfold maxLen at hc
 have HI : Hid (insS [] s = [s]) := hid (by simp [insS, insB, mkS_bts])
 have HU1 := hid (fun wz => strsNil wz c (by unfold maxLen; omega))
 go_enter Tryz.func55, Tryz.ntmps55
 go_wp2
 go_loop [5] (fun i' => i' = .int .i64 0) (fun i => 1 - (intOf i).toNat)
 case atStart => rfl
 case round =>
  obtain rfl := hrel
  go_wp2_with (at_builtin; first
   | (refine appS rfl (.tmp 34) (.tmp 37) rfl w.heap.size _ [] rfl (OwnS.empty w) _ [] rfl (HU1.out _) (by simp) (by simp) ?_; intro v2 w2 hv2 hg2 hr2; have k2 : Keeps w w2 := ((Keeps.refl w).alloc _).grown hg2 (fun q hq => hr2 q hq); have hs2 := k2.size)
   | (refine appS rfl (.tmp 39) (.tmp 41) rfl w.heap.size _ ([] ++ []) rfl (hv2.keeps ((Keeps.refl w2).alloc _)) _ [s] rfl (Strs.lit1 w2 s) (by simp; omega) (by simp) ?_; intro v3 w3 hv3 hg3 hr3; have k3 : Keeps w w3 := (k2.alloc _).grown hg3 (fun q hq => hr3 q hq); have hs3 := k3.size)
   | (refine appS rfl (.tmp 43) (.tmp 46) rfl w.heap.size _ ([] ++ [] ++ [s]) rfl hv3 _ [] rfl (HU1.out _) (by omega) (by simp) ?_; intro v4 w4 hv4 hg4 hr4; have k4 : Keeps w w4 := k3.grown hg4 (fun q hq => hr4 q hq)))
  go_ret
  exact ⟨_, rfl, by rw [HI.out]; simpa using hv4.strsP (by simp), k4⟩
theorem l02InsertR_any (ss : List ByteArray) (v : Value) (s : ByteArray) (w : World) (hv : StrsP w v ss) (hn : ss.length ≤ 1000000) : Calls Tryz.prog 55 #[v, .string s] w (RetSR w (insS ss s)) := by
 obtain ⟨hv, hp⟩ := hv
 obtain ⟨p, c, rfl, h1, h2, _⟩ := hv.shape
 cases p with
 | none =>
  have h0 : ss = [] := by
   cases ss with
   | nil => rfl
   | cons x l => obtain ⟨b, off, e, _⟩ := hv.get 0 (by simp); cases e
  subst h0
  exact l02InsertR_none c s w h2
 | some a =>
  have hs := hp a _ _ rfl
  obtain ⟨b, off, sp⟩ := a
  simp only at hs
  subst hs
  exact l02InsertR_some ss _ _ _ _ s w hv hn
end Go.Proofs.YtkkcfifnkcnceaaGreat
namespace Go.Proofs.YtkkcfifnkcnceaaGreat
open Go.RowKit
theorem uniS_asc {tt : List ByteArray} : ∀ {ss : List ByteArray}, Asc (ss.map bts) → Asc ((uniS ss tt).map bts) := by
 induction tt with
 | nil => exact fun h => h
 | cons t tt ih => exact fun h => ih (insS_asc t h)
theorem uni_of {ss tt r : List ByteArray} (ha : Asc (ss.map bts)) (hr : Asc (r.map bts)) (hm : ∀ z, z ∈ r.map bts ↔ InU ss tt z) : r = uniS ss tt := by
 apply map_bts_inj
 refine Asc.ext hr (uniS_asc ha) fun z => ?_
 rw [hm z]
 unfold InU
 constructor
 ·intro h
  rcases h with h | h
  ·obtain ⟨u, hu, rfl⟩ := List.mem_map.1 h
   exact List.mem_map_of_mem (uniS_in.2 (.inl hu))
  ·obtain ⟨u, hu, rfl⟩ := List.mem_map.1 h
   exact List.mem_map_of_mem (uniS_in.2 (.inr hu))
 ·intro h
  obtain ⟨u, hu, rfl⟩ := List.mem_map.1 h
  rcases uniS_in.1 hu with hu | hu
  ·exact .inl (List.mem_map_of_mem hu)
  ·exact .inr (List.mem_map_of_mem hu)
theorem l11Union_uni (ss tt : List ByteArray) (v u : Value) (w : World) (hv : Strs w v ss) (hu : Strs w u tt) (ha : Asc (ss.map bts)) (hl : ss.length + tt.length ≤ 1000000) :
  Calls Tryz.prog 21 #[v, u] w (RetO w w.heap.size (uniS ss tt)) := by
 refine (l11Union_any ss tt v u w hv hu ha hl).mono ?_
 rintro e w' ⟨b, n, c, r, rfl, ho, hr, hm, _, k⟩
 obtain rfl := uni_of ha hr hm
 exact ⟨b, n, c, rfl, ho, k⟩
set_option maxRecDepth 20000 in
set_option maxHeartbeats 1000000 in
theorem l11Without_any (ss : List ByteArray) (v : Value) (s : ByteArray) (w : World) (hv : Strs w v ss) (hl : ss.length ≤ 1000000) : Calls Tryz.prog 110 #[v, .string s] w (RetO w w.heap.size (remS ss s)) := by
 have HV := hid hv
 obtain ⟨p, c, rfl, hle, hmx, _⟩ := hv.shape
 unfold maxLen at hmx
 have HE : Hid (remS (ss.take ss.length) s = remS ss s) := hid (by rw [List.take_length])
 clear hv
 go_enter Tryz.func110, Tryz.ntmps110
 go_wp2
 go_loopw [5, 6] (fun o i' wr => ∃ (i : Nat) (b' : Addr) (n' c' : Nat), i ≤ ss.length ∧ i' = .int .i64 i ∧ o = .slice (some b') n' c' ∧ OwnS wr w.heap.size (.slice (some b') n' c') (remS (ss.take i) s) ∧ Keeps w wr) (fun _ i' _ => ss.length - (intOf i').toNat)
 case atStart => exact ⟨0, _, _, _, by omega, rfl, rfl, OwnS.empty w, (Keeps.refl w).alloc _⟩
 case round =>
  obtain ⟨i, b', n', c', hi, rfl, rfl, hown, kw⟩ := hrel
  have HO := hid hown; clear hown
  by_cases hlt : i < ss.length
  ·have hlt' : (i : Int) < ss.length := by omega
   obtain ⟨b1, o1, rfl, h1⟩ := (HV.out.keeps kw).get i hlt
   have HN := hid (remS_no (s := s) hlt)
   have hlr : (remS (ss.take i) s).length ≤ 1000000 := by have := remS_len (ss.take i) s; simp at this; omega
   have heq := beq_bts ss[i] s
   generalize ss[i] = x at *
   generalize remS (ss.take i) s = R at *
   generalize hR2 : remS (ss.take (i + 1)) s = R2 at *
   have HR2 := hid hR2; clear hR2
   cases hb : (x.toList == s.toList)
   ·rw [hb] at heq
    have HNE : Hid (x ≠ s) := hid (fun e => by subst e; simp at heq)
    have hs := kw.size
    clear heq
    go_wp2_with (at_builtin; refine appS rfl _ _ rfl w.heap.size _ R rfl (HO.out.keeps ((Keeps.refl wr).alloc _)) _ [x] rfl (Strs.lit1 wr x) (by simp; omega) (by simp; omega) ?_; intro v4 w4 hv4 hg4 hr4; have k4 := (kw.alloc (.cells #[.string x] 9)).grown hg4 (fun q hq => hr4 q hq); obtain ⟨g4, c4, rfl⟩ := own_some hv4 (by simp))
    go_roundw
    case rel => exact ⟨i + 1, _, _, _, by omega, by go_num, rfl, by rw [HR2.out, HN.out, if_pos HNE.out]; simpa using hv4, k4⟩
    case measure => simp [intOf]; omega
   ·rw [hb] at heq
    have HEQ : Hid (x = s) := hid (bts_inj (of_decide_eq_true heq.symm))
    clear heq
    go_wp2_with fail
    go_roundw
    case rel => exact ⟨i + 1, _, _, _, by omega, by go_num, rfl, by rw [HR2.out, HN.out, if_neg (by simp [HEQ.out]), List.append_nil]; exact HO.out, kw⟩
    case measure => simp [intOf]; omega
  ·obtain rfl : i = ss.length := by omega
   have hlt' : ¬ ((ss.length : Int) < ss.length) := by omega
   go_wp2_with fail
   go_ret
   exact ⟨_, _, _, rfl, by rw [← HE.out]; exact HO.out, kw⟩
set_option maxRecDepth 20000 in
set_option maxHeartbeats 1000000 in
theorem l11Kind_any (ss : List ByteArray) (hS : ∀ s ∈ ss, ∃ t, IsTx s t) (v : Value) (kd : Int) (w : World) (hv : Strs w v ss) (hl : ss.length ≤ 1000000) : Calls Tryz.prog 150 #[v, .int .i64 kd] w (RetO w w.heap.size (kdS (isKd kd) ss)) := by
 have HV := hid hv
 obtain ⟨p, c, rfl, hle, hmx, _⟩ := hv.shape
 unfold maxLen at hmx
 have HE : Hid (kdS (isKd kd) (ss.take ss.length) = kdS (isKd kd) ss) := hid (by rw [List.take_length])
 have HTX := hid (fun (i : Nat) (h : i < ss.length) => txF_tx (hS ss[i] (List.getElem_mem h)))
 clear hv
 go_enter Tryz.func150, Tryz.ntmps150
 go_wp2
 go_loopw [5, 6] (fun o i' wr => ∃ (i : Nat) (b' : Addr) (n' c' : Nat), i ≤ ss.length ∧ i' = .int .i64 i ∧ o = .slice (some b') n' c' ∧ OwnS wr w.heap.size (.slice (some b') n' c') (kdS (isKd kd) (ss.take i)) ∧ Keeps w wr) (fun _ i' _ => ss.length - (intOf i').toNat)
 case atStart => exact ⟨0, _, _, _, by omega, rfl, rfl, OwnS.empty w, (Keeps.refl w).alloc _⟩
 case round =>
  obtain ⟨i, b', n', c', hi, rfl, rfl, hown, kw⟩ := hrel
  have HO := hid hown; clear hown
  by_cases hlt : i < ss.length
  ·have hlt' : (i : Int) < ss.length := by omega
   obtain ⟨b1, o1, rfl, h1⟩ := (HV.out.keeps kw).get i hlt
   have HN := hid (kdS_take (p := isKd kd) hlt)
   have hlr : (kdS (isKd kd) (ss.take i)).length ≤ 1000000 := by have := kdS_len (isKd kd) (ss.take i); simp at this; omega
   have htx := HTX.out i hlt
   have HG := hid (l02GoodA ss[i] wr (by have := htx.small; omega))
   unfold GoodR at HG
   have HT := hid htx
   have hix := isTx_iff.2 ⟨_, htx⟩
   clear htx
   have hkk : isKd kd (txF ss[i]) = decide ((txF ss[i]).kind = kd) := rfl
   generalize txF ss[i] = t at *
   generalize ss[i] = x at *
   generalize kdS (isKd kd) (ss.take i) = R at *
   generalize hR2 : kdS (isKd kd) (ss.take (i + 1)) = R2 at *
   have HR2 := hid hR2; clear hR2
   rw [hkk] at HN
   clear hkk
   rw [hix] at HG
   clear hix
   go_wp2_with fail
   refine HG.out.mono ?_; rintro e w2 ⟨v2, rfl, k2, hg2⟩
   have hnd := (hg2 t HT.out).nds (by have := HT.out.2.2; omega)
   obtain ⟨b6, o6, n6, c6, rfl, hn0, hn1, hn2, hn3, hc, -⟩ := hnd.root
   unfold maxLen at hn2
   have h2 := k2.cell h1
   clear hnd hg2
   have kw2 := kw.trans k2
   have hs := kw2.size
   by_cases hk : t.kind = kd
   ·have HK := hid hk
    clear hk
    rw [HK.out] at hc
    go_wp2_with (at_builtin; refine appS rfl _ _ rfl w.heap.size _ R rfl ((HO.out.keeps k2).keeps ((Keeps.refl w2).alloc _)) _ [x] rfl (Strs.lit1 w2 x) (by simp; omega) (by simp; omega) ?_; intro v4 w4 hv4 hg4 hr4; have k4 := (kw2.alloc (.cells #[.string x] 9)).grown hg4 (fun q hq => hr4 q hq); obtain ⟨g4, c4, rfl⟩ := own_some hv4 (by simp))
    go_roundw
    case rel => exact ⟨i + 1, _, _, _, by omega, by go_num, rfl, by rw [HR2.out, HN.out, if_pos (decide_eq_true HK.out)]; simpa using hv4, k4⟩
    case measure => simp [intOf]; omega
   ·have HK := hid hk
    have hk' : ((t.kind : Int) == kd) = false := by simpa using hk
    clear hk
    go_wp2_with fail
    go_roundw
    case rel => exact ⟨i + 1, _, _, _, by omega, by go_num, rfl, by rw [HR2.out, HN.out, if_neg (by simp [HK.out]), List.append_nil]; exact HO.out.keeps k2, kw2⟩
    case measure => simp [intOf]; omega
  ·obtain rfl : i = ss.length := by omega
   have hlt' : ¬ ((ss.length : Int) < ss.length) := by omega
   go_wp2_with fail
   go_ret
   exact ⟨_, _, _, rfl, by rw [← HE.out]; exact HO.out, kw⟩
end Go.Proofs.YtkkcfifnkcnceaaGreat
