import Derived.Test.YtkkcfifnkcnceaaGreatHEJ
import Derived.Test.YtkkcfifnkcnceaaGreatHV90
import Derived.Test.YtkkcfifnkcnceaaGreatHSU
import Derived.Test.YtkkcfifnkcnceaaGreatHRN
import Derived.Test.YtkkcfifnkcnceaaGreatHEM
import Derived.Test.YtkkcfifnkcnceaaGreatHV9
import Derived.Test.YtkkcfifnkcnceaaGreatHRP
import Derived.Test.YtkkcfifnkcnceaaGreatHQ1
import Derived.Test.YtkkcfifnkcnceaaGreatHV5
import Derived.Test.YtkkcfifnkcnceaaGreatHRK
import Derived.Test.YtkkcfifnkcnceaaGreatHU1
import Derived.Test.YtkkcfifnkcnceaaGreatHEP
/- put and drop of the program, told as the reference tells them. No program in sight. -/
namespace Go.Proofs.YtkkcfifnkcnceaaGreat
open Go.RowKit
theorem putL_bts (ss tt : List ByteArray) : (putL ss tt).map bts = sortB ((ss ++ tt).map bts) := by simp [putL, Function.comp_def, bts_mkS]
theorem mem_bts {u : ByteArray} {l : List ByteArray} : bts u ∈ l.map bts ↔ u ∈ l := by
 rw [List.mem_map]
 exact ⟨fun ⟨x, hx, e⟩ => by rw [← bts_inj e]; exact hx, fun h => ⟨u, h, rfl⟩⟩
theorem putL_asc (ss tt : List ByteArray) : Asc ((putL ss tt).map bts) := by rw [putL_bts]; exact sortB_asc _
theorem putL_in {ss tt : List ByteArray} {u : ByteArray} : u ∈ putL ss tt ↔ u ∈ ss ∨ u ∈ tt := by
 rw [← mem_bts, putL_bts, sortB_iff, mem_bts, List.mem_append]
theorem asc_ext {a b : List ByteArray} (ha : Asc (a.map bts)) (hb : Asc (b.map bts)) (h : ∀ u, u ∈ a ↔ u ∈ b) : a = b := by
 apply map_bts_inj
 refine Asc.ext ha hb fun z => ?_
 rw [List.mem_map, List.mem_map]
 exact ⟨fun ⟨u, hu, e⟩ => ⟨u, (h u).1 hu, e⟩, fun ⟨u, hu, e⟩ => ⟨u, (h u).2 hu, e⟩⟩
theorem putL_one {ss : List ByteArray} (h : Asc (ss.map bts)) : putL ss [] = ss := asc_ext (putL_asc _ _) h fun u => by rw [putL_in]; simp
theorem putL_two {ss : List ByteArray} (h : Asc (ss.map bts)) (a b : ByteArray) : putL ss [a, b] = insS (insS ss a) b :=
 asc_ext (putL_asc _ _) (insS_asc b (insS_asc a h)) fun u => by
  rw [putL_in, insS_in, insS_in]
  simp [or_assoc]
theorem dropS_eq (ss : List ByteArray) (t : ByteArray) : (ss.filter fun s => !(s.toList == t.toList)) = remS ss t := by
 unfold remS
 refine List.filter_congr fun u _ => ?_
 rw [beq_bts, Bool.eq_iff_iff]
 simp only [Bool.not_eq_true', decide_eq_false_iff_not, decide_eq_true_eq]
 exact ⟨fun h e => h (by rw [e]), fun h e => h (bts_inj e)⟩
theorem ofS_in {p : Fm → Bool} {ss : List ByteArray} {u : ByteArray} : u ∈ ofS p ss ↔ u ∈ (kdS p ss).map paI := by
 unfold ofS
 rw [fold_in, List.mem_map]
 simp only [List.not_mem_nil, false_or]
 exact ⟨fun ⟨s, hs, e⟩ => ⟨s, hs, e.symm⟩, fun ⟨s, hs, e⟩ => ⟨s, hs, e.symm⟩⟩
theorem keep34 {p : Fm → Bool} {ss : List ByteArray} (h : Side ss) : putL (kdS p ss) ((kdS p ss).map paI) = uniS (ofS p ss) (kdS p ss) :=
 asc_ext (putL_asc _ _) (uniS_side (ofS_side h) (kdS_side h).1).2 fun u => by
  rw [putL_in, uniS_in, ofS_in]
  exact or_comm
theorem keep6 {p q : Fm → Bool} {ss : List ByteArray} (h : Side ss) (hpq : (p = isBx ∧ q = isDi) ∨ (p = isDi ∧ q = isBx)) (main : ByteArray) : remS (putL (kdS p ss) (kdS q ss)) main = remS (uniS (kdS isBx ss) (kdS isDi ss)) main := by
 congr 1
 refine asc_ext (putL_asc _ _) (uniS_side (kdS_side h) (kdS_side h).1).2 fun u => ?_
 rw [putL_in, uniS_in]
 rcases hpq with ⟨rfl, rfl⟩ | ⟨rfl, rfl⟩
 ·exact Iff.rfl
 ·exact or_comm
theorem keep0 {p : Fm → Bool} {ss : List ByteArray} (h : Side ss) : putL ((kdS p ss).map paI) [] = ofS p ss :=
 asc_ext (putL_asc _ _) (ofS_side h).2 fun u => by
  rw [putL_in, ofS_in]
  simp
theorem putL_len (ss tt : List ByteArray) : (putL ss tt).length ≤ ss.length + tt.length := by
 have hle : (sortB ((ss ++ tt).map bts)).length ≤ _ := Lib.compact_length_le (((ss ++ tt).map bts).mergeSort fun x y => decide (x ≤ y))
 rw [List.length_mergeSort] at hle
 simpa [putL] using hle
end Go.Proofs.YtkkcfifnkcnceaaGreat
namespace Go.Proofs.YtkkcfifnkcnceaaGreat
open Go.RowKit
theorem cloneS_any (ss : List ByteArray) (v : Value) (w : World) (hv : Strs w v ss) :
  Calls Tryz.prog 118 #[v] w fun e w' => ∃ v', e = .returned v' ∧ OwnS w' w.heap.size v' ss ∧ Keeps w w' := by
 obtain ⟨p, cap, rfl, hle, hmx, hat, hl⟩ := hv.at
 cases p with
 | none =>
  have h0 : ss = [] := by
   cases ss with
   | nil => rfl
   | cons x l => obtain ⟨b, off, e, _⟩ := hat 0 (by simp [strCells]); cases e
  subst h0
  refine (Tryz.slices_Clone_string_nil _ cap w).mono ?_
  rintro e w' ⟨rfl, rfl⟩
  exact ⟨_, rfl, OwnS.nil _ _, Keeps.refl _⟩
 | some a =>
  by_cases h0 : ss = []
  ·subst h0
   refine (Tryz.slices_Clone_string_zero a cap w).mono ?_
   rintro e w' ⟨v', rfl, h1, _, k⟩
   exact ⟨v', rfl, h1, k⟩
  ·have hp : 0 < ss.length := List.length_pos_iff.2 h0
   obtain ⟨b, off, e, _⟩ := hat 0 (by simpa [strCells] using hp)
   cases e
   have hc : ∀ j, j < ss.length → w.cell? ⟨b, off + j, none⟩ = some (.string (ss.getD j ByteArray.empty)) := by
    intro j hj
    obtain ⟨b', off', hp, hc⟩ := hat j (by simpa [strCells] using hj)
    cases hp
    rw [hc]
    simp [strCells, List.getD_eq_getElem?_getD, hj]
   have hC := Tryz.slices_Clone_string b off ss.length cap ss w (Nat.le_refl _) (by omega) hc
   rw [List.take_length] at hC
   refine hC.mono ?_
   rintro e w' ⟨v', rfl, h1, _, k⟩
   exact ⟨v', rfl, h1, k⟩
theorem enters_drop1 : Enters 153 := fun _ _ => by kernel_rfl
theorem deleteFuncNil (f : FuncId) (cp : Array Value) (w : World) (hcf : Enters f) :
  Calls Tryz.prog 152 #[.slice none 0 0, .func (.func f) #[] cp] w fun e w' => e = .returned (.slice none 0 0) ∧ Keeps w w' := by
 have hI := indexFuncS (fun _ => false) f cp [] _ w ((OwnS.nil w w.heap.size).strs (by simp)) hcf (fun x w1 hx k => by simp at hx)
 have HI := hid hI; clear hI
 go_enter Tryz.func152, Tryz.ntmps152
 go_wp2_with fail
 refine HI.out.mono ?_; rintro e w1 ⟨rfl, k1⟩
 go_wp2_with fail
 go_ret
 exact ⟨rfl, k1⟩
set_option maxRecDepth 20000 in
set_option maxHeartbeats 1000000 in
theorem dropP_any (ss : List ByteArray) (t : ByteArray) (v : Value) (w : World) (hv : Strs w v ss) (hl : ss.length ≤ 1000000000) :
  Calls Tryz.prog 114 #[v, .string t] w fun e w' => ∃ v', e = .returned v' ∧ OwnS w' w.heap.size v' (remS ss t) ∧ Keeps w w' := by
 have kA := (Keeps.refl w).alloc (.cells #[.string t] 9)
 have hb : (w.alloc (.cells #[.string t] 9)).cell? ⟨w.heap.size, 0, none⟩ = some (.string t) := by simp
 have HC := hid (cloneS_any ss v _ (hv.keeps kA))
 have HB := hid hb; clear hb
 obtain ⟨p, n, c, rfl⟩ := hv.sh
 rw [← dropS_eq]
 clear hv
 go_enter Tryz.func114, Tryz.ntmps114
 go_wp2_with fail
 refine HC.out.mono ?_; rintro e w1 ⟨v1, rfl, hv1, k1⟩
 have hcase := hv1.2
 rcases hcase with ⟨e1, _⟩ | ⟨g, c1, _, e1, _⟩
 ·subst e1
  have h0 : ss = [] := by
   obtain ⟨p, c, e, _⟩ := At.of_own hv1
   injection e with _ e2 _
   exact List.eq_nil_of_length_eq_zero e2.symm
  subst h0
  have HD := hid (deleteFuncNil 153 #[.pointer (some ⟨w.heap.size, 0, none⟩)] w1 enters_drop1)
  clear hv1
  go_wp2_with fail
  refine HD.out.mono ?_; rintro e w2 ⟨rfl, k2⟩
  go_wp2_with fail
  go_ret
  exact ⟨_, rfl, OwnS.nil _ _, (kA.trans k1).trans k2⟩
 ·subst e1
  have HD := hid (deleteFuncSK (fun s => s.toList == t.toList) 153 #[.pointer (some ⟨w.heap.size, 0, none⟩)] ss g c1 (w.alloc (.cells #[.string t] 9)) w1 hv1 k1 (by omega) enters_drop1 (fun x w2 _ k2 => (drop_1_any x t _ w2 (Keeps.cell k2 HB.out)).mono fun e w3 h => ⟨h.1, by rw [← h.2]; exact Keeps.refl _⟩))
  clear hv1
  go_wp2_with fail
  refine HD.out.mono ?_; rintro e w2 ⟨v2, rfl, hv2, k2⟩
  go_wp2_with fail
  go_ret
  exact ⟨_, rfl, hv2.mono (by simp), kA.trans k2⟩
end Go.Proofs.YtkkcfifnkcnceaaGreat
namespace Go.Proofs.YtkkcfifnkcnceaaGreat
open Go.RowKit
theorem appS4K {w : World} {o : Oper} {a : Act} {K : Act → World → Prop} {Q : Exit → Act → World → Prop} (s x : Operand)
  (ho : o.op = .call { callee := .builtin .append, args := #[s, x], argTypes := #[24, 24] }) (base : Nat) (v : Value) (xs : List ByteArray) (hs : a.eval s = v) (hown : OwnS w base v xs)
  (u : Value) (y : ByteArray) (hx : a.eval x = u) (hu : Strs w u [y]) (hbase : base ≤ w.heap.size) (hlen : xs.length ≤ 1000000)
  (h : ∀ v' w', OwnS w' base v' (xs ++ [y]) → w.grownBy w' v.ownBlock → (∀ k, v.ownBlock = some k → base ≤ k) → (∀ k, v'.ownBlock = some k → v.ownBlock = some k ∨ w.heap.size ≤ k) → K (a.put o.dst v') w') : o.wp Tryz.prog a w K Q := by
 obtain ⟨i0, hi, hz0, hz1, hz2⟩ := info_parts infoS
 obtain ⟨p, cap, rfl, _, _, hat, _⟩ := hu.at
 obtain ⟨b, off, rfl, hc⟩ := hat 0 (by simp [strCells])
 refine wp_append_lies w s x _ ho base _ i0 _ 1 16 Tryz.underlying24 hi hz0 hz1 hz2 rfl (by decide) v _ _ hs hown ⟨b, off, none⟩ 1 cap [.string y] hx (by simp) ?_ (by simp [Value.oneCell']) (by omega) (by unfold maxLen; omega) (by omega) hbase _ rfl ?_
 ·intro j u hj
  cases j with
  | zero => simp at hj; subst hj; simpa [Addr.add, strCells] using hc
  | succ j => simp at hj
 ·intro g c' w' h2 h3 h4 h5
  refine h _ w' ?_ h3 (fun k e => (World.ownsRow.lt hown k e).1) (fun k e => ?_)
  ·unfold OwnS
   rw [List.length_append, show strCells (xs ++ [y]) = strCells xs ++ [.string y] by simp [strCells]]
   exact h2
  ·have : k = g := by simpa [Value.ownBlock] using e.symm
   subst this
   rcases h4 with h4 | h4
   ·exact .inl h4
   ·exact .inr (by omega)
theorem appS4 {w : World} {ops : Array Oper} {rest : List Oper} {o : Oper} {a : Act} {Q : Exit → Act → World → Prop} (hgd : o.guard = none) (s x : Operand)
  (ho : o.op = .call { callee := .builtin .append, args := #[s, x], argTypes := #[24, 24] }) (base : Nat) (v : Value) (xs : List ByteArray) (hs : a.eval s = v) (hown : OwnS w base v xs)
  (u : Value) (y : ByteArray) (hx : a.eval x = u) (hu : Strs w u [y]) (hbase : base ≤ w.heap.size) (hlen : xs.length ≤ 1000000)
  (h : ∀ v' w', OwnS w' base v' (xs ++ [y]) → w.grownBy w' v.ownBlock → (∀ k, v.ownBlock = some k → base ≤ k) → (∀ k, v'.ownBlock = some k → v.ownBlock = some k ∨ w.heap.size ≤ k) → wpList Tryz.prog ops Q rest (a.put o.dst v') w') : wpList Tryz.prog ops Q (o :: rest) a w :=
 wpList_plain hgd fun _ hK => appS4K s x ho base v xs hs hown u y hx hu hbase hlen fun v' w' h1 h2 h3 h4 => hK _ _ (h v' w' h1 h2 h3 h4)
structure Two (B : Nat) (w : World) (v u : Value) (xs ys : List ByteArray) : Prop where
 a : OwnS w B v xs
 b : OwnS w B u ys
 ne : ∀ k, v.ownBlock = some k → u.ownBlock ≠ some k
theorem Two.keeps {B : Nat} {w w' : World} {v u : Value} {xs ys : List ByteArray} (h : Two B w v u xs ys) (k : Keeps w w') : Two B w' v u xs ys := ⟨h.a.keeps k, h.b.keeps k, h.ne⟩
theorem Two.start (w : World) : Two w.heap.size w (.slice none 0 0) (.slice none 0 0) [] [] := ⟨OwnS.nil _ _, OwnS.nil _ _, fun k e => by simp [Value.ownBlock] at e⟩
theorem Two.push {B : Nat} {w w' : World} {v u v' : Value} {xs ys xs' : List ByteArray} (h : Two B w v u xs ys) (h1 : OwnS w' B v' xs') (h2 : w.grownBy w' v.ownBlock) (h4 : ∀ k, v'.ownBlock = some k → v.ownBlock = some k ∨ w.heap.size ≤ k) : Two B w' v' u xs' ys := by
 refine ⟨h1, own_touch h.b (Touch.grown h2) (fun i e hi => h.ne i hi.symm e), fun k e e2 => ?_⟩
 rcases h4 k e with e3 | e3
 ·exact h.ne k e3 e2
 ·have := (h.b.len k e2).2
  omega
theorem Two.flip {B : Nat} {w : World} {v u : Value} {xs ys : List ByteArray} (h : Two B w v u xs ys) : Two B w u v ys xs := ⟨h.b, h.a, fun k e e2 => h.ne k e2 e⟩
def RetWK (w : World) (r : List ByteArray) (e : Ending) (w' : World) : Prop := ∃ a b, e = .returned (.tuple #[a, b]) ∧ OwnS w' w.heap.size a r ∧ OwnS w' w.heap.size b (r.map paI) ∧ Keeps w w'
set_option maxRecDepth 20000 in
set_option maxHeartbeats 2000000 in
theorem withKind_any (ss : List ByteArray) (hS : Side ss) (kd : Int) (hkd : kd = 5 ∨ kd = 6) (v : Value) (w : World) (hv : Strs w v ss) (hl : ss.length ≤ 100000) :
  Calls Tryz.prog 151 #[v, .int .i64 kd] w (RetWK w (kdS (isKd kd) ss)) := by
 have HV := hid hv
 obtain ⟨p, c, rfl, hle, hmx, _⟩ := hv.shape
 unfold maxLen at hmx
 have HE : Hid (kdS (isKd kd) (ss.take ss.length) = kdS (isKd kd) ss) := hid (by rw [List.take_length])
 have HTX := hid (fun (i : Nat) (h : i < ss.length) => txF_tx (hS.1 ss[i] (List.getElem_mem h)))
 have HKD := hid hkd
 clear hv hkd
 go_enter Tryz.func151, Tryz.ntmps151
 go_wp2
 go_loopw [4, 5, 11] (fun o q i' wr => ∃ (i : Nat), i ≤ ss.length ∧ i' = .int .i64 i ∧ Two w.heap.size wr o q (kdS (isKd kd) (ss.take i)) ((kdS (isKd kd) (ss.take i)).map paI) ∧ Keeps w wr) (fun _ _ i' _ => ss.length - (intOf i').toNat)
 case atStart => exact ⟨0, by omega, rfl, by simpa [kdS] using Two.start w, Keeps.refl w⟩
 case round =>
  obtain ⟨i, hi, rfl, hown, kw⟩ := hrel
  have HO := hid hown
  clear hown
  by_cases hlt : i < ss.length
  ·have hlt' : (i : Int) < ss.length := by omega
   obtain ⟨b1, o1, rfl, h1⟩ := (HV.out.keeps kw).get i hlt
   have HN := hid (kdS_take (p := isKd kd) hlt)
   have hlr : (kdS (isKd kd) (ss.take i)).length ≤ 100000 := by have := kdS_len (isKd kd) (ss.take i); simp at this; omega
   have HT := hid (HTX.out i hlt)
   have HG := hid (parsedT (txF ss[i]) ss[i] wr HT.out)
   have hkk : isKd kd (txF ss[i]) = decide ((txF ss[i]).kind = kd) := rfl
   have HPA : Hid (paI ss[i] = txS (below (txF ss[i]))) := hid rfl
   rw [hkk] at HN
   clear hkk
   generalize txF ss[i] = t at *
   generalize ss[i] = x at *
   generalize kdS (isKd kd) (ss.take i) = R at *
   generalize hR2 : kdS (isKd kd) (ss.take (i + 1)) = R2 at *
   have HR2 := hid hR2; clear hR2
   go_wp2_with fail
   refine HG.out.mono ?_; rintro e w2 ⟨v2, rfl, hv2, k2⟩
   have h0 : 0 < t.enc.length := by cases t <;> simp [Fm.enc]
   obtain ⟨g, cap, rfl, _, _, hc1, hc2⟩ := hv2.shape h0
   have hr := (hv2.nds (by have := HT.out.2.2; omega)).root
   obtain ⟨b, o9, n9, c9, e9, g0, g1, g2, g3, hc0, _⟩ := hr
   cases e9
   have HO2 := hid (HO.out.keeps k2)
   have HV2 := hid hv2
   clear hv2
   by_cases hk : t.kind = kd
   ·have HNx : Hid (R2 = R ++ [x]) := hid (by rw [HN.out, if_pos (decide_eq_true hk)])
    have HFI : Hid (∀ v wz, Nds wz v t.enc → Calls Tryz.prog 113 #[v] wz fun e w' => ∃ v, e = .returned v ∧ Nds wz v (below t).enc ∧ wz = w') := hid (fun v wz hz => by
     have hkk := HKD.out
     rw [← hk] at hkk
     cases t with
     | box x =>
      refine (first_any _ ⟨5, 0⟩ x [] _ _ hz (by simp [Fm.enc])).mono ?_
      rintro e w' ⟨v1, rfl, hv1, rfl⟩
      exact ⟨v1, rfl, hv1, rfl⟩
     | dia x =>
      refine (first_any _ ⟨6, 0⟩ x [] _ _ hz (by simp [Fm.enc])).mono ?_
      rintro e w' ⟨v1, rfl, hv1, rfl⟩
      exact ⟨v1, rfl, hv1, rfl⟩
     | _ => simp [Fm.kind] at hkk)
    have HTX2 := hid (fun v wz (hz : Nds wz v (below t).enc) => text_any (below t) (below_wf HT.out.1) (by have := HT.out.2.2; have := below_le (t := t); omega) v wz hz)
    rw [hk] at hc0
    clear hk HN
    have k3 := (Keeps.refl w2).alloc (.cells #[.string x] 9)
    have hsz := kw.size
    have hsz2 := k2.size
    have hTw := HO2.out.keeps k3
    have hlm : (R.map paI).length = R.length := List.length_map _
    unfold maxLen at hc2
    go_wp2_with (at_builtin; refine appS4 rfl (.tmp 23) (.tmp 25) rfl w.heap.size _ R rfl hTw.a _ x rfl (Strs.lit1 w2 x) (by simp; omega) (by omega) ?_; intro v5 w5 hv5 hg5 hr5 hl5)
    have hT5 := hTw.push hv5 hg5 hl5
    have K5 := ((kw.trans k2).trans k3).grown hg5 hr5
    have hn5 := OwnN.nds ((HV2.out.keeps k3).touch (Touch.grown hg5) (fun i e hi => by
     have e1 := (HO.out.a.len i hi.symm).2
     have e2 := (World.ownsRow.lt HV2.out i e).1
     omega)) (by have := HT.out.2.2; omega)
    clear hv5 hg5 hr5 hl5 hTw hc0
    go_wp2_with fail
    refine (HFI.out _ _ hn5).mono ?_; rintro e w6 ⟨v6, rfl, hv6, rfl⟩
    have HTX6 := hid (HTX2.out _ _ hv6)
    obtain ⟨p6, n6, c6, rfl⟩ := hv6.shape
    clear hv6 hn5
    go_wp2_with fail
    refine HTX6.out.mono ?_; rintro e w7 ⟨s7, rfl, hs7, k7⟩
    obtain rfl := txS_eq hs7
    have k8 := k7.alloc (.cells #[.string (txS (below t))] 9)
    have hT8 := (hT5.keeps k8).flip
    have hs8 := K5.size
    have hs9 := k7.size
    have K8 := K5.trans k8
    have HT8 := hid hT8
    clear hT5 hs7 hT8
    go_wp2_with (at_builtin; refine appS4 rfl (.tmp 27) (.tmp 31) rfl w.heap.size _ (R.map paI) rfl HT8.out.a _ (txS (below t)) rfl (Strs.lit1 w7 _) (by simp; omega) (by omega) ?_; intro v9 w9 hv9 hg9 hr9 hl9)
    have hT9 := (HT8.out.push hv9 hg9 hl9).flip
    have K9 := K8.grown hg9 hr9
    clear hv9 hg9 hr9 hl9 HT8
    go_roundw
    case rel => exact ⟨i + 1, by omega, by go_num, by rw [HR2.out, HNx.out, List.map_append, List.map_cons, List.map_nil, HPA.out]; exact hT9, K9⟩
    case measure => simp [intOf]; omega
   ·have HNx : Hid (R2 = R) := hid (by rw [HN.out, if_neg (by simp [hk])]; simp)
    have hk' : (t.kind == kd) = false := by simpa using hk
    have K2 := kw.trans k2
    clear HN
    go_wp2_with fail
    go_roundw
    case rel => exact ⟨i + 1, by omega, by go_num, by rw [HR2.out, HNx.out]; exact HO2.out, K2⟩
    case measure => simp [intOf]; omega
  ·obtain rfl : i = ss.length := by omega
   have hlt' : ¬ ((ss.length : Int) < ss.length) := by omega
   rw [HE.out] at HO
   go_wp2
   go_ret2
   exact ⟨_, _, rfl, HO.out.a, HO.out.b, kw⟩
set_option maxRecDepth 20000 in
set_option maxHeartbeats 2000000 in
theorem carried_any (s : ByteArray) (ss : List ByteArray) (hS : Side ss) (v : Value) (kd : Int) (hkd : kd = 5 ∨ kd = 6) (main : ByteArray) (w : World) (hv : Strs w v ss) (hl : ss.length ≤ 1000) :
  Calls Tryz.prog 112 #[.string s, v, .int .i64 kd, .string main] w (RetSR w (kepS (lgN s) (isKd kd) ss main)) := by
 have HW := hid (fun k (hk : k = 5 ∨ k = 6) wz (kz : Keeps w wz) => withKind_any ss hS k hk v wz (hv.keeps kz) (by omega))
 have HKD := hid hkd
 have HSD := hid hS
 have e1 := nmK4 s
 have e2 := nmGL s
 have e3 := nmS4 s
 have e4 := nmS5 s
 have HKP : Hid (kepS (lgN s) (isKd kd) ss main = if lgN s = 3 ∨ lgN s = 5 then uniS (ofS (isKd kd) ss) (kdS (isKd kd) ss) else if lgN s = 4 then kdS (isKd kd) ss else if lgN s = 6 then remS (uniS (kdS isBx ss) (kdS isDi ss)) main else ofS (isKd kd) ss) := hid rfl
 have l2 := kdS_len (isKd kd) ss
 have l3 : ((kdS (isKd kd) ss).map paI).length = (kdS (isKd kd) ss).length := List.length_map _
 obtain ⟨p, c, rfl, _⟩ := hv.shape
 clear hv hS hkd
 generalize kepS (lgN s) (isKd kd) ss main = R at *
 go_enter Tryz.func112, Tryz.ntmps112
 go_wp2_with fail
 refine (HW.out kd HKD.out _ (Keeps.refl w)).mono ?_; rintro e w2 ⟨va, vb, rfl, ha, hb, k2⟩
 have HA := hid (ha.strs (by omega))
 have HB := hid (hb.strs (by rw [l3]; omega))
 by_cases h35 : lgN s = 3 ∨ lgN s = 5
 ·rw [if_pos h35, ← keep34 HSD.out] at HKP
  have HPU := hid (put_any _ _ va vb w2 HA.out HB.out (by omega))
  have hpl := putL_len (kdS (isKd kd) ss) ((kdS (isKd kd) ss).map paI)
  have h35b : lgN s = 3 ∨ (lgN s ≠ 3 ∧ lgN s = 5) := by omega
  clear ha hb HA HB h35 e3 e4
  generalize putL (kdS (isKd kd) ss) ((kdS (isKd kd) ss).map paI) = U at *
  rcases h35b with h3 | ⟨h3, h5⟩
  ·rw [decide_eq_true h3] at e1
   clear h3 e2
   go_wp2_with fail
   refine HPU.out.mono ?_; rintro e w3 ⟨v3, rfl, hv3, k3⟩
   go_wp2_with fail
   go_ret
   exact ⟨_, rfl, by rw [HKP.out]; exact hv3.strsP (by omega), k2.trans k3⟩
  ·rw [decide_eq_false h3] at e1
   rw [decide_eq_true h5] at e2
   clear h3 h5
   go_wp2_with fail
   refine HPU.out.mono ?_; rintro e w3 ⟨v3, rfl, hv3, k3⟩
   go_wp2_with fail
   go_ret
   exact ⟨_, rfl, by rw [HKP.out]; exact hv3.strsP (by omega), k2.trans k3⟩
 ·rw [if_neg h35] at HKP
  rw [decide_eq_false (fun h => h35 (.inl h))] at e1
  rw [decide_eq_false (fun h => h35 (.inr h))] at e2
  clear h35
  by_cases h4 : lgN s = 4
  ·rw [if_pos h4] at HKP
   rw [decide_eq_true h4] at e3
   have HPU := hid (put_any _ [] va (.slice none 0 0) w2 HA.out ((OwnS.nil w2 w2.heap.size).strs (by simp)) (by simp; omega))
   rw [putL_one (kdS_side HSD.out).2] at HPU
   clear ha hb HA HB h4 e4
   go_wp2_with fail
   refine HPU.out.mono ?_; rintro e w3 ⟨v3, rfl, hv3, k3⟩
   go_wp2_with fail
   go_ret
   exact ⟨_, rfl, by rw [HKP.out]; exact hv3.strsP (by omega), k2.trans k3⟩
  ·rw [if_neg h4] at HKP
   rw [decide_eq_false h4] at e3
   clear h4
   by_cases h6 : lgN s = 6
   ·rw [if_pos h6] at HKP
    rw [decide_eq_true h6] at e4
    have HW2 := hid (fun k (hk : k = 5 ∨ k = 6) => HW.out k hk w2 k2)
    have hq : (11 : Int) - kd = 5 ∨ (11 : Int) - kd = 6 := by have := HKD.out; omega
    have HW3 := hid (HW2.out (11 - kd) hq)
    have HEQ : Hid (remS (putL (kdS (isKd kd) ss) (kdS (isKd (11 - kd)) ss)) main = R) := hid (by
     rw [HKP.out]
     refine keep6 HSD.out ?_ main
     rcases HKD.out with rfl | rfl
     ·exact .inl ⟨isKd_bx, isKd_di⟩
     ·exact .inr ⟨isKd_di, isKd_bx⟩)
    have l5 := kdS_len (isKd (11 - kd)) ss
    have HAO := hid ha
    have hwr : IntKind.wrap .i64 (11 - kd) = 11 - kd := by rcases HKD.out with rfl | rfl <;> rfl
    clear ha hb HB h6 hq HW2 HW HKP
    go_wp2_with fail
    refine HW3.out.mono ?_; rintro e w3 ⟨vc, vd, rfl, hc, hd, k3⟩
    have HPU := hid (put_any _ _ va vc w3 (HA.out.keeps k3) (hc.strs (by omega)) (by omega))
    have hpl := putL_len (kdS (isKd kd) ss) (kdS (isKd (11 - kd)) ss)
    clear hc hd HA HAO HW3
    generalize putL (kdS (isKd kd) ss) (kdS (isKd (11 - kd)) ss) = U at *
    go_wp2_with fail
    refine HPU.out.mono ?_; rintro e w4 ⟨v4, rfl, hv4, k4⟩
    have HDR := hid (dropP_any U main v4 w4 (hv4.strs (by omega)) (by omega))
    have hrl := remS_len U main
    clear hv4 HPU
    go_wp2_with fail
    refine HDR.out.mono ?_; rintro e w5 ⟨v5, rfl, hv5, k5⟩
    go_wp2_with fail
    go_ret
    exact ⟨_, rfl, by rw [← HEQ.out]; exact hv5.strsP (by omega), ((k2.trans k3).trans k4).trans k5⟩
   ·rw [if_neg h6, ← keep0 HSD.out] at HKP
    rw [decide_eq_false h6] at e4
    have HPU := hid (put_any _ [] vb (.slice none 0 0) w2 HB.out ((OwnS.nil w2 w2.heap.size).strs (by simp)) (by simp; omega))
    have hpl := putL_len ((kdS (isKd kd) ss).map paI) []
    have hl0 : ([] : List ByteArray).length = 0 := rfl
    rw [hl0] at hpl
    clear ha hb HA HB h6 hl0
    generalize putL ((kdS (isKd kd) ss).map paI) [] = U at *
    go_wp2_with fail
    refine HPU.out.mono ?_; rintro e w3 ⟨v3, rfl, hv3, k3⟩
    go_wp2_with fail
    go_ret
    exact ⟨_, rfl, by rw [HKP.out]; exact hv3.strsP (by omega), k2.trans k3⟩
end Go.Proofs.YtkkcfifnkcnceaaGreat
namespace Go.Proofs.YtkkcfifnkcnceaaGreat
open Go.RowKit
def partsL : Fm → List Fm
 | .and x y => [x, y]
 | .or x y => [x, y]
 | .imp x y => [x, y]
 | .box x => [x]
 | .dia x => [x]
 | _ => []
theorem NdsL.noneN (w : World) : NdsL w (.slice Option.none 0 0) [] := ⟨Option.none, 0, rfl, Nat.le_refl _, by simp [maxLen], by simp, fun i hi => by simp at hi⟩
theorem parts_any (t : Fm) (v : Value) (w : World) (hv : Nds w v t.enc) :
  Calls Tryz.prog 154 #[v] w fun e w' => ∃ u, e = .returned u ∧ NdsL w' u ((partsL t).map Fm.enc) ∧ Keeps w w' := by
 have hv0 := hv
 obtain ⟨b, off, n, cap, rfl, h0, h1, h2, h3, hc, _⟩ := hv.root
 cases t with
 | var _ =>
  replace hc : w.cell? ⟨b, off, none⟩ = some (.int .i64 0) := hc
  have hp := partsOf_any 0 w
  rw [show partsOf 0 = 0 from rfl] at hp
  go_enter Tryz.func154, Tryz.ntmps154
  go_wp2_with (go_at_call 180; refine hp.mono ?_; rintro e w' ⟨rfl, rfl⟩)
  go_ret
  exact ⟨_, rfl, NdsL.noneN _, Keeps.refl _⟩
 | fls =>
  replace hc : w.cell? ⟨b, off, none⟩ = some (.int .i64 1) := hc
  have hp := partsOf_any 1 w
  rw [show partsOf 1 = 0 from rfl] at hp
  go_enter Tryz.func154, Tryz.ntmps154
  go_wp2_with (go_at_call 180; refine hp.mono ?_; rintro e w' ⟨rfl, rfl⟩)
  go_ret
  exact ⟨_, rfl, NdsL.noneN _, Keeps.refl _⟩
 | and x y =>
  replace hc : w.cell? ⟨b, off, none⟩ = some (.int .i64 2) := hc
  have hp := partsOf_any 2 w
  rw [show partsOf 2 = 2 from rfl] at hp
  go_enter Tryz.func154, Tryz.ntmps154
  go_wp2_with fail
  refine hp.mono ?_; rintro e w' ⟨rfl, rfl⟩
  go_wp2_with fail
  refine (first_any _ _ x y.enc _ _ hv0 rfl).mono ?_; rintro e w' ⟨v1, rfl, hv1, rfl⟩
  go_wp2_with fail
  refine (second_any _ _ x y _ _ hv0 rfl).mono ?_; rintro e w' ⟨v2, rfl, hv2, rfl⟩
  obtain ⟨p1, n1, c1, rfl⟩ := hv1.shape
  obtain ⟨p2, n2, c2, rfl⟩ := hv2.shape
  go_wp2_with fail
  go_ret
  exact ⟨_, rfl, NdsL.lit2 hv1 hv2, (Keeps.refl w).alloc _⟩
 | or x y =>
  replace hc : w.cell? ⟨b, off, none⟩ = some (.int .i64 3) := hc
  have hp := partsOf_any 3 w
  rw [show partsOf 3 = 2 from rfl] at hp
  go_enter Tryz.func154, Tryz.ntmps154
  go_wp2_with fail
  refine hp.mono ?_; rintro e w' ⟨rfl, rfl⟩
  go_wp2_with fail
  refine (first_any _ _ x y.enc _ _ hv0 rfl).mono ?_; rintro e w' ⟨v1, rfl, hv1, rfl⟩
  go_wp2_with fail
  refine (second_any _ _ x y _ _ hv0 rfl).mono ?_; rintro e w' ⟨v2, rfl, hv2, rfl⟩
  obtain ⟨p1, n1, c1, rfl⟩ := hv1.shape
  obtain ⟨p2, n2, c2, rfl⟩ := hv2.shape
  go_wp2_with fail
  go_ret
  exact ⟨_, rfl, NdsL.lit2 hv1 hv2, (Keeps.refl w).alloc _⟩
 | imp x y =>
  replace hc : w.cell? ⟨b, off, none⟩ = some (.int .i64 4) := hc
  have hp := partsOf_any 4 w
  rw [show partsOf 4 = 2 from rfl] at hp
  go_enter Tryz.func154, Tryz.ntmps154
  go_wp2_with fail
  refine hp.mono ?_; rintro e w' ⟨rfl, rfl⟩
  go_wp2_with fail
  refine (first_any _ _ x y.enc _ _ hv0 rfl).mono ?_; rintro e w' ⟨v1, rfl, hv1, rfl⟩
  go_wp2_with fail
  refine (second_any _ _ x y _ _ hv0 rfl).mono ?_; rintro e w' ⟨v2, rfl, hv2, rfl⟩
  obtain ⟨p1, n1, c1, rfl⟩ := hv1.shape
  obtain ⟨p2, n2, c2, rfl⟩ := hv2.shape
  go_wp2_with fail
  go_ret
  exact ⟨_, rfl, NdsL.lit2 hv1 hv2, (Keeps.refl w).alloc _⟩
 | box x =>
  replace hc : w.cell? ⟨b, off, none⟩ = some (.int .i64 5) := hc
  have hp := partsOf_any 5 w
  rw [show partsOf 5 = 1 from rfl] at hp
  go_enter Tryz.func154, Tryz.ntmps154
  go_wp2_with fail
  refine hp.mono ?_; rintro e w' ⟨rfl, rfl⟩
  go_wp2_with fail
  refine (first_any _ ⟨5, 0⟩ x [] _ _ hv0 (by simp [Fm.enc])).mono ?_; rintro e w' ⟨v1, rfl, hv1, rfl⟩
  obtain ⟨p1, n1, c1, rfl⟩ := hv1.shape
  go_wp2_with fail
  go_ret
  exact ⟨_, rfl, NdsL.lit1 hv1, (Keeps.refl w).alloc _⟩
 | dia x =>
  replace hc : w.cell? ⟨b, off, none⟩ = some (.int .i64 6) := hc
  have hp := partsOf_any 6 w
  rw [show partsOf 6 = 1 from rfl] at hp
  go_enter Tryz.func154, Tryz.ntmps154
  go_wp2_with fail
  refine hp.mono ?_; rintro e w' ⟨rfl, rfl⟩
  go_wp2_with fail
  refine (first_any _ ⟨6, 0⟩ x [] _ _ hv0 (by simp [Fm.enc])).mono ?_; rintro e w' ⟨v1, rfl, hv1, rfl⟩
  obtain ⟨p1, n1, c1, rfl⟩ := hv1.shape
  go_wp2_with fail
  go_ret
  exact ⟨_, rfl, NdsL.lit1 hv1, (Keeps.refl w).alloc _⟩
theorem partsL_wf {t : Fm} (h : t.wf) : ∀ x ∈ partsL t, x.wf := by
 cases t <;> simp [partsL, Fm.wf] at h ⊢ <;> first | exact h | (intro x hx; rcases hx with rfl | rfl <;> simp_all) | simp_all
theorem partsL_len (t : Fm) : ∀ x ∈ partsL t, x.enc.length ≤ t.enc.length := by
 cases t <;> simp [partsL, Fm.enc] <;> omega
theorem partsL_two (t : Fm) : (partsL t).length ≤ 2 := by cases t <;> simp [partsL]
set_option maxRecDepth 20000 in
theorem partTexts_any (t : Fm) (hw : t.wf) (hl : t.enc.length ≤ 100000000) (v : Value) (w : World) (hv : Nds w v t.enc) :
  Calls Tryz.prog 115 #[v] w fun e w' => ∃ u ss, e = .returned u ∧ OwnS w' w.heap.size u ss ∧ Txts ss (partsL t) ∧ Keeps w w' := by
 have hP := hid (parts_any t v w hv)
 have hwf := hid (partsL_wf hw)
 have hln := hid (partsL_len t)
 have h2 := partsL_two t
 generalize hg : partsL t = G at *
 clear hg
 go_enter Tryz.func115, Tryz.ntmps115
 go_wp2_with fail
 refine hP.out.mono ?_; rintro e w1 ⟨v1, rfl, hv1, k1⟩
 obtain ⟨p, m, cap, rfl⟩ := NdsL.shapeL hv1
 have hm : m = G.length := by obtain ⟨_, _, e, _⟩ := hv1; cases e; simp
 have HM := hid hm; clear hm
 have hm2 : m ≤ 2 := by have := HM.out; omega
 go_wp2
 go_loopw [3, 9] (fun r i' wr => ∃ k : Nat, k ≤ m ∧ i' = .int .i64 k ∧ (∃ ss, OwnS wr w1.heap.size r ss ∧ Txts ss (G.take k)) ∧ Keeps w1 wr) (fun _ i _ => m - (intOf i).toNat)
 case atStart => exact ⟨0, by omega, rfl, ⟨[], OwnS.nil _ _, rfl⟩, Keeps.refl _⟩
 case round =>
  obtain ⟨k, hk, rfl, ⟨ss, hss, htx⟩, kw⟩ := hrel
  by_cases hlt : k < m
  ·have hkG : k < G.length := by have := HM.out; omega
   have hlt' : (k : Int) < m := by omega
   obtain ⟨b, off, u1, hp, hcell, hu1⟩ := (NdsL.keeps hv1 kw).get k (by simpa using hkG)
   replace hu1 : Nds wr u1 G[k].enc := by simpa using hu1
   subst hp
   have hT := hid (text_any G[k] (hwf.out _ (List.getElem_mem _)) (by have := hln.out G[k] (List.getElem_mem _); omega) u1 wr hu1)
   obtain ⟨q1, n1, c1, rfl⟩ := hu1.shape
   have hsl : ss.length ≤ 2 := by have := htx.length; simp at this; have := HM.out; omega
   have hsz := k1.size
   have hsz2 := kw.size
   go_wp2_with fail
   refine hT.out.mono ?_; rintro e w2 ⟨s, rfl, hs, k2⟩
   have hsz3 := k2.size
   go_wp2_with (at_builtin; refine appS rfl (.tmp 13) (.tmp 16) rfl w1.heap.size _ ss rfl ((hss.keeps k2).keeps ((Keeps.refl w2).alloc _)) _ [s] rfl (Strs.lit1 w2 s) (by simp; omega) (by simp; omega) ?_; intro v3 w3 hv3 hg3 hr3)
   go_roundw
   case rel => exact ⟨k + 1, by omega, by go_num, ⟨_, hv3, by rw [← List.take_append_getElem hkG]; exact htx.append (by simp [Txts, hs])⟩, (((kw.trans k2).alloc _).grown hg3 (fun q hq => by have := hr3 q hq; omega))⟩
   case measure => simp [intOf]; omega
  ·go_wp2
   go_ret
   have hkm : k = G.length := by have := HM.out; omega
   subst hkm
   exact ⟨_, _, rfl, hss.mono k1.size, by rw [List.take_length] at htx; exact htx, k1.trans kw⟩
end Go.Proofs.YtkkcfifnkcnceaaGreat
namespace Go.Proofs.YtkkcfifnkcnceaaGreat
open Go.RowKit
theorem txts_txS {ss : List ByteArray} {G : List Fm} (h : Txts ss G) : ss = G.map txS := by
 apply map_bts_inj
 rw [show ss.map bts = G.map Fm.body from h, List.map_map]
 exact List.map_congr_left fun t _ => (bts_mkS _).symm
def tptr (x : ByteArray) : Kq := .pr (fun v w => ∃ ad, v = .pointer (some ad) ∧ w.cell? ad = some (.string x)) (fun _ _ _ k ⟨ad, e, h⟩ => ⟨ad, e, k.cell h⟩)
theorem run_idx (b off n c i : Nat) (hi : i < n) (w : World) : (Instr.indexAt 24 (.slice (some ⟨b, off, none⟩) n c) (.int .i64 (i : Int))).run Tryz.prog w = .ok (.pointer (some ⟨b, off + i, none⟩)) w := by
 simp [Instr.indexAt, go_sem, hi, Addr.add]
theorem run_loadX (p : Addr) (s : ByteArray) (w : World) (h : w.cell? p = some (.string s)) : (Instr.loadAt 9 (.pointer (some p))).run Tryz.prog w = .ok (.string s) w := by
 simp [Instr.loadAt, go_sem, h]
theorem run_loadQ (b : Nat) (p q : Option Addr) (n c m d : Nat) (w : World) (hb : BoxG w b 26 [.slice p n c, .slice q m d]) : (Instr.loadAt 26 (.pointer (some ⟨b, 0, none⟩))).run Tryz.prog w = .ok (.agg #[.slice p n c, .slice q m d]) w := by
 have a0 := hb.cell 0 (by simp)
 have a1 := hb.cell 1 (by simp)
 simp only [List.getElem_cons_succ, List.getElem_cons_zero] at a0 a1
 simp [Instr.loadAt, go_sem, a0, a1]
section
variable {md : Region.Mode} {ops : Array Oper} {Q : Exit → Act → World → Prop} {nt : Nat} {ins : List Nat} {kd : Nat → Kq} {w0 : World} {o : Oper}
theorem kIdx (s i : Nat) (l : List ByteArray) (x : ByteArray) (ho : o.op = .indexAddr 24 (.tmp s) (.const (.int .i64 (i : Int)))) (hg : o.guard = none) (h : availK md ops ins o s = true) (hs : kd s = .strs l) (hx : l[i]? = some x) (hk : ∀ d, o.dst = some d → kd d = tptr x) : StQ md ops Q nt ins kd w0 o :=
 StepK.plain hg fun a w K hsa hJ hins hdep hK => by
  have hv := getK h hins hdep
  change (kd s).holds _ w at hv
  rw [hs] at hv
  have hv : StrsP w (a.eval (.tmp s)) l := hv
  obtain ⟨hi, hx⟩ := List.getElem?_eq_some_iff.1 hx
  obtain ⟨p, c, e, _⟩ := hv.1.shape
  rw [e] at hv
  obtain ⟨b, off, e2, hc⟩ := hv.1.get i hi
  cases e2
  rw [hx] at hc
  have ei : a.eval (.const (.int .i64 (i : Int))) = .int .i64 (i : Int) := rfl
  unfold Oper.wp execOp
  simp only [ho, e, ei, Sem.run_bind, run_idx b off l.length c i hi, Result.andThen_ok, Sem.run_pure]
  exact hK _ _ (Keeps.refl w) (fun d hd => by show (kd d).holds _ w; rw [hk d hd]; exact ⟨_, rfl, hc⟩)
theorem kLoadX (s : Nat) (x : ByteArray) (ho : o.op = .load 9 (.tmp s)) (hg : o.guard = none) (h : availK md ops ins o s = true) (hs : kd s = tptr x) (hk : ∀ d, o.dst = some d → kd d = .val (.string x)) : StQ md ops Q nt ins kd w0 o :=
 StepK.plain hg fun a w K hsa hJ hins hdep hK => by
  have hv := getK h hins hdep
  change (kd s).holds _ w at hv
  rw [hs] at hv
  obtain ⟨ad, e, hc⟩ := (hv : ∃ ad, a.eval (.tmp s) = .pointer (some ad) ∧ w.cell? ad = some (.string x))
  unfold Oper.wp execOp
  simp only [ho, e, Sem.run_bind, run_loadX ad x w hc, Result.andThen_ok, Sem.run_pure]
  exact hK _ _ (Keeps.refl w) (fun d hd => by show (kd d).holds _ w; rw [hk d hd]; exact rfl)
theorem kLoadQ (s b : Nat) (u v : Value) (x y : List ByteArray) (ho : o.op = .load 26 (.tmp s)) (hg : o.guard = none) (h : availK md ops ins o s = true) (hs : kd s = .val (.pointer (some ⟨b, 0, none⟩))) (hb : BoxG w0 b 26 [u, v]) (hu : StrsP w0 u x) (hv : StrsP w0 v y) (hk : ∀ d, o.dst = some d → kd d = .sq x y) : StQ md ops Q nt ins kd w0 o :=
 StepK.plain hg fun a w K hsa hJ hins hdep hK => by
  have hv1 := getK h hins hdep
  change (kd s).holds _ w at hv1
  rw [hs] at hv1
  have hv1 : a.eval (.tmp s) = .pointer (some ⟨b, 0, none⟩) := hv1
  obtain ⟨p, n, c, rfl⟩ := hu.sh
  obtain ⟨q, m, d, rfl⟩ := hv.sh
  unfold Oper.wp execOp
  simp only [ho, hv1, Sem.run_bind, run_loadQ b p q n c m d w (hb.keeps hJ), Result.andThen_ok, Sem.run_pure]
  exact hK _ _ (Keeps.refl w) (fun d hd => by show (kd d).holds _ w; rw [hk d hd]; exact ⟨_, _, rfl, hu.keeps hJ, hv.keeps hJ⟩)
theorem enters_put : Enters 64 := fun _ _ => by kernel_rfl
theorem kPut (s s' : Nat) (x y : List ByteArray) (ho : o.op = .call { callee := .value (.func 64), args := #[.tmp s, .tmp s'], argTypes := #[24, 24] }) (hg : o.guard = none) (h : availK md ops ins o s = true) (h' : availK md ops ins o s' = true) (hs : kd s = .strs x) (hs' : kd s' = .strs y) (hl : x.length + y.length ≤ 1000000) (hk : ∀ d, o.dst = some d → kd d = .strs (putL x y)) : StQ md ops Q nt ins kd w0 o :=
 kCall 64 _ _ ho enters_put hg (fun a w1 _ hv => by
  have g1 := hv s h
  have g2 := hv s' h'
  rw [hs] at g1
  rw [hs'] at g2
  have g1 : StrsP w1 (a.eval (.tmp s)) x := g1
  have g2 : StrsP w1 (a.eval (.tmp s')) y := g2
  rw [map2]
  refine (put_any x y _ _ w1 g1.1 g2.1 (by omega)).mono ?_
  rintro e w2 ⟨v3, rfl, h3, k3⟩
  have := putL_len x y
  exact ⟨_, rfl, k3, fun d hd => by rw [hk d hd]; exact h3.strsP (by omega)⟩)
theorem kPut1 (s s' : Nat) (x : List ByteArray) (y : ByteArray) (ho : o.op = .call { callee := .value (.func 64), args := #[.tmp s, .tmp s'], argTypes := #[24, 24] }) (hg : o.guard = none) (h : availK md ops ins o s = true) (h' : availK md ops ins o s' = true) (hs : kd s = .strs x) (hs' : kd s' = .strs [y]) (hl : x.length ≤ 100000) (hA : Asc (x.map bts)) (hk : ∀ d, o.dst = some d → kd d = .strs (insS x y)) : StQ md ops Q nt ins kd w0 o :=
 kPut s s' x [y] ho hg h h' hs hs' (by simp; omega) (fun d hd => by rw [hk d hd, putL_ins hA])
theorem kPut2 (s s' : Nat) (x : List ByteArray) (y z : ByteArray) (ho : o.op = .call { callee := .value (.func 64), args := #[.tmp s, .tmp s'], argTypes := #[24, 24] }) (hg : o.guard = none) (h : availK md ops ins o s = true) (h' : availK md ops ins o s' = true) (hs : kd s = .strs x) (hs' : kd s' = .strs [y, z]) (hl : x.length ≤ 100000) (hA : Asc (x.map bts)) (hk : ∀ d, o.dst = some d → kd d = .strs (insS (insS x y) z)) : StQ md ops Q nt ins kd w0 o :=
 kPut s s' x [y, z] ho hg h h' hs hs' (by simp; omega) (fun d hd => by rw [hk d hd, putL_two hA])
theorem enters_dropP : Enters 114 := fun _ _ => by kernel_rfl
theorem kDropP (s s' : Nat) (x : List ByteArray) (y : ByteArray) (ho : o.op = .call { callee := .value (.func 114), args := #[.tmp s, .tmp s'], argTypes := #[24, 9] }) (hg : o.guard = none) (h : availK md ops ins o s = true) (h' : availK md ops ins o s' = true) (hs : kd s = .strs x) (hs' : kd s' = .val (.string y)) (hl : x.length ≤ 1000000) (hk : ∀ d, o.dst = some d → kd d = .strs (remS x y)) : StQ md ops Q nt ins kd w0 o :=
 kCall 114 _ _ ho enters_dropP hg (fun a w1 _ hv => by
  have g1 := hv s h
  have g2 := hv s' h'
  rw [hs] at g1
  rw [hs'] at g2
  have g1 : StrsP w1 (a.eval (.tmp s)) x := g1
  have g2 : a.eval (.tmp s') = .string y := g2
  rw [map2, g2]
  refine (dropP_any x y _ w1 g1.1 (by omega)).mono ?_
  rintro e w2 ⟨v3, rfl, h3, k3⟩
  have := remS_len x y
  exact ⟨_, rfl, k3, fun d hd => by rw [hk d hd]; exact h3.strsP (by omega)⟩)
theorem enters_textP : Enters 92 := fun _ _ => by kernel_rfl
theorem kText (s : Nat) (t : Fm) (ho : o.op = .call { callee := .value (.func 92), args := #[.tmp s], argTypes := #[95] }) (hg : o.guard = none) (h : availK md ops ins o s = true) (hs : kd s = .nd t) (hw : t.wf) (hl : t.enc.length ≤ 100000000) (hk : ∀ d, o.dst = some d → kd d = .val (.string (txS t))) : StQ md ops Q nt ins kd w0 o :=
 kCall 92 _ _ ho enters_textP hg (fun a w1 _ hv => by
  have g1 := hv s h
  rw [hs] at g1
  have g1 : Nds w1 (a.eval (.tmp s)) t.enc := g1
  rw [map1]
  refine (text_any t hw hl _ w1 g1).mono ?_
  rintro e w2 ⟨s3, rfl, h3, k3⟩
  exact ⟨_, rfl, k3, fun d hd => by rw [hk d hd, txS_eq h3]; exact rfl⟩)
theorem enters_partT : Enters 115 := fun _ _ => by kernel_rfl
theorem kPartT (s : Nat) (t : Fm) (ho : o.op = .call { callee := .value (.func 115), args := #[.tmp s], argTypes := #[95] }) (hg : o.guard = none) (h : availK md ops ins o s = true) (hs : kd s = .nd t) (hw : t.wf) (hl : t.enc.length ≤ 100000000) (hk : ∀ d, o.dst = some d → kd d = .strs ((partsL t).map txS)) : StQ md ops Q nt ins kd w0 o :=
 kCall 115 _ _ ho enters_partT hg (fun a w1 _ hv => by
  have g1 := hv s h
  rw [hs] at g1
  have g1 : Nds w1 (a.eval (.tmp s)) t.enc := g1
  rw [map1]
  refine (partTexts_any t hw hl _ w1 g1).mono ?_
  rintro e w2 ⟨u, ss, rfl, h3, h4, k3⟩
  have h2 := partsL_two t
  have h5 := h4.length
  exact ⟨_, rfl, k3, fun d hd => by rw [hk d hd, ← txts_txS h4]; exact h3.strsP (by omega)⟩)
end
end Go.Proofs.YtkkcfifnkcnceaaGreat
