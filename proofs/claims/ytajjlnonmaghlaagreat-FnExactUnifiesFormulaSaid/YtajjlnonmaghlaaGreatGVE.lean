/- slices.Contains at []string, off the shelf. -/
import Derived.Test.YtajjlnonmaghlaaGreatGV5
import Derived.Test.YtajjlnonmaghlaaGreatGP7
import Derived.Test.YtajjlnonmaghlaaGreatGVS
import Derived.Test.YtajjlnonmaghlaaGreatGV8
import Derived.Sort.OwnSorted
import Derived.Sort.Grow
import Derived.Lib.OwnBridge
import Derived.Test.YtajjlnonmaghlaaGreatGPS
import Derived.Test.YtajjlnonmaghlaaGreatGVC
import Derived.Test.YtajjlnonmaghlaaGreatGVG
namespace Go.Proofs.YtajjlnonmaghlaaGreat
open Go.RowKit
open Classical in
theorem containsS_any (ss : List ByteArray) (x : ByteArray) (v : Value) (w : World) (hv : Strs w v ss) :
    Calls Tryz.prog 164 #[v, .string x] w fun e w' => e = .returned (.bool (decide (x ∈ ss))) ∧ w = w' := by
  obtain ⟨p, cap, rfl, h1, h2, hat, h3⟩ := hv.at
  have hd : decide (x ∈ ss) = Lib.containsS (ss.take ss.length) x := by
    rw [List.take_length, Bool.eq_iff_iff, Lib.containsS_iff]
    exact decide_eq_true_iff
  by_cases h0 : ss.length = 0
  · obtain rfl : ss = [] := List.eq_nil_of_length_eq_zero h0
    refine (Tryz.slices_Contains_string_empty p cap x w).mono ?_
    rintro e w' ⟨rfl, rfl⟩
    exact ⟨by simp, rfl⟩
  · obtain ⟨b, off, rfl, _⟩ := hat 0 (by simp [strCells]; omega)
    have hc : ∀ j, j < ss.length → w.cell? ⟨b, off + j, none⟩ = some (.string (ss.getD j ByteArray.empty)) := by
      intro j hj
      obtain ⟨b', off', hp, hc⟩ := hat j (by simpa [strCells] using hj)
      cases hp
      rw [hc]
      simp [strCells, List.getD_eq_getElem?_getD, hj]
    refine (Tryz.slices_Contains_string b off ss.length cap ss x w (Nat.le_refl _) (by omega) hc).mono ?_
    rintro e w' ⟨rfl, rfl⟩
    exact ⟨by rw [hd], rfl⟩
theorem txt_mem {ss : List ByteArray} {G : List Fm} {x : ByteArray} {t : Fm} (h : Txts ss G) (hx : bts x = t.body) (hw : t.wf) (hG : ∀ a ∈ G, a.wf) : x ∈ ss ↔ t ∈ G := by
  constructor
  · intro hm
    have h1 : bts x ∈ ss.map bts := List.mem_map.2 ⟨x, hm, rfl⟩
    rw [h, List.mem_map] at h1
    obtain ⟨a, ha, e⟩ := h1
    rw [hx] at e
    rwa [← body_inj (hG a ha) hw e]
  · intro hm
    have h1 : t.body ∈ G.map Fm.body := List.mem_map.2 ⟨t, hm, rfl⟩
    rw [← h, List.mem_map] at h1
    obtain ⟨y, hy, e⟩ := h1
    rwa [← bts_inj (e.trans hx.symm)]
open Classical in
/-- slices.Contains at texts of formulas -/
theorem containsF_any (ss : List ByteArray) (G : List Fm) (h : Txts ss G) (hG : ∀ a ∈ G, a.wf) (x : ByteArray) (t : Fm) (hx : bts x = t.body) (hw : t.wf) (v : Value) (w : World) (hv : Strs w v ss) :
    Calls Tryz.prog 164 #[v, .string x] w fun e w' => e = .returned (.bool (decide (t ∈ G))) ∧ w = w' := by
  refine (containsS_any ss x v w hv).mono ?_
  rintro e w' ⟨rfl, rfl⟩
  exact ⟨ret_bool (by rw [Bool.eq_iff_iff, decide_eq_true_iff, decide_eq_true_iff]; exact txt_mem h hx hw hG), rfl⟩
end Go.Proofs.YtajjlnonmaghlaaGreat
/- put: Concat, Sort, Compact at []string (turned from the kit's UniqWalks). -/
namespace Go.Proofs.YtajjlnonmaghlaaGreat
open Go.RowKit Go.Sort
def mkS (b : List UInt8) : ByteArray := ⟨b.toArray⟩
theorem bts_mkS (b : List UInt8) : bts (mkS b) = b := by simp [bts, mkS]
theorem enc_bts (s : ByteArray) : encStr (bts s) = .string s := by simp [encStr, bts]
theorem enc_mkS (b : List UInt8) : Value.string (mkS b) = encStr b := by simp [encStr, mkS]
theorem cells_enc (ss : List ByteArray) : strCells ss = (ss.map bts).map encStr := by
  simp [strCells, Function.comp_def, enc_bts]
def sortB (bs : List (List UInt8)) : List (List UInt8) := Lib.compact (bs.mergeSort fun x y => decide (x ≤ y))
/-- what put hands back -/
def putL (ss tt : List ByteArray) : List ByteArray := (sortB ((ss ++ tt).map bts)).map mkS
theorem putL_cells (ss tt : List ByteArray) : strCells (putL ss tt) = (sortB ((ss ++ tt).map bts)).map encStr := by
  simp [putL, strCells, Function.comp_def, enc_mkS]
theorem sorted_own {w w1 : World} {g cap n nn q : Nat} {os : Array Obj} {bs : List (List UInt8)} (hown : w1.ownsRow w.heap.size 9 1 (.slice (some ⟨g, 0, none⟩) n cap) n (bs.map encStr)) (hbel : Keeps w w1) (hbg : w.heap.size ≤ g) (hlen : bs.length = n) :
    let w2 := putRow encStr (Sort.ahead (grow (putRow encStr (Sort.ahead w1 nn) g 0 (bs.mergeSort fun x y => decide (x ≤ y)).toArray) os) q) g 0 (sortB bs ++ List.replicate (n - (sortB bs).length) []).toArray
    w2.ownsRow w.heap.size 9 1 (.slice (some ⟨g, 0, none⟩) (sortB bs).length cap) (sortB bs).length ((sortB bs).map encStr) ∧ Keeps w w2 := by
  have hl2 : (bs.mergeSort fun x y => decide (x ≤ y)).length = bs.length := List.length_mergeSort bs
  have hle : (sortB bs).length ≤ _ := Lib.compact_length_le (bs.mergeSort fun x y => decide (x ≤ y))
  subst hlen
  rcases hown.2 with ⟨h0, _⟩ | ⟨g', cap', cur, hv, hbase, hb, h1, h2, h3, h4⟩
  · cases h0
  cases hv
  have hs := ownsRow_sorted (n := nn) (os := os) (ts := bs.mergeSort fun x y => decide (x ≤ y)) hl2 hbase hb h1 h2 h3
  have hc := Lib.ownsRow_putRow (q := q) (k := (sortB bs).length) (ys := sortB bs ++ List.replicate (bs.length - (sortB bs).length) []) hs (by simp; omega) (by omega)
  rw [List.take_left] at hc
  exact ⟨hc, Lib.below_putRow (Below.grown hbel (grownBy_sorted _) hbel.size (fun j hj => by cases hj; exact hbase)) hbg⟩
theorem sorted_holds {w1 : World} {B g cap n nn : Nat} {os : Array Obj} {bs : List (List UInt8)} (hown : w1.ownsRow B 9 1 (.slice (some ⟨g, 0, none⟩) n cap) n (bs.map encStr)) (hlen : bs.length = n) :
    Holds encStr (grow (putRow encStr (Sort.ahead w1 nn) g 0 (bs.mergeSort fun x y => decide (x ≤ y)).toArray) os) g 0 (bs.mergeSort fun x y => decide (x ≤ y)).toArray := by
  have hl2 : (bs.mergeSort fun x y => decide (x ≤ y)).length = bs.length := List.length_mergeSort bs
  subst hlen
  rcases hown.2 with ⟨h0, _⟩ | ⟨g', cap', cur, hv, hbase, hb, h1, h2, h3, h4⟩
  · cases h0
  cases hv
  have hs := ownsRow_sorted (n := nn) (os := os) (ts := bs.mergeSort fun x y => decide (x ≤ y)) hl2 hbase hb h1 h2 h3
  obtain ⟨g2, c2, e, _, _, _, _, _, hH⟩ := Lib.holds_of_ownsRow hs (by simp)
  cases e
  exact hH
set_option maxRecDepth 100000 in
set_option maxHeartbeats 1000000 in
theorem put_any (ss tt : List ByteArray) (v u : Value) (w : World) (hv : Strs w v ss) (hu : Strs w u tt) (hl : ss.length + tt.length ≤ 1000000000) :
    Calls Tryz.prog 57 #[v, u] w fun e w' => ∃ v', e = .returned v' ∧ OwnS w' w.heap.size v' (putL ss tt) ∧ Keeps w w' := by
  obtain ⟨p1, n1, c1, rfl⟩ : ∃ p n c, v = .slice p n c := by obtain ⟨p, c, e, _⟩ := hv.at; exact ⟨p, _, c, e⟩
  obtain ⟨p2, n2, c2, rfl⟩ : ∃ p n c, u = .slice p n c := by obtain ⟨p, c, e, _⟩ := hu.at; exact ⟨p, _, c, e⟩
  have kl := (Keeps.refl w).alloc (.cells #[.slice p1 n1 c1, .slice p2 n2 c2] 72)
  have hC := concatS_any [ss, tt] _ _ (StrL.lit2 hv hu) (by simp [fl]; omega)
  rw [show fl [ss, tt] [ss, tt].length = ss ++ tt from by simp [fl]] at hC
  have hbs : ((ss ++ tt).map bts).length ≤ 1000000000 := by simp; omega
  have HC := hid hC; clear hC
  go_enter Tryz.func57, Tryz.ntmps57
  go_wp2_with fail
  refine HC.out.mono ?_; rintro e w1 ⟨v1, rfl, hv1, k1⟩
  replace hv1 := hv1.mono kl.size
  have kw := kl.trans k1
  by_cases hn : v1 = .slice none 0 0
  · subst hn
    have h0 : ss ++ tt = [] := by
      obtain ⟨p, c, e, _⟩ := At.of_own hv1
      injection e with _ e2 _
      exact List.eq_nil_of_length_eq_zero e2.symm
    have hp : putL ss tt = [] := by simp [putL, h0, sortB, Lib.compact, Lib.compactUpTo]
    have HP := hid hp; clear hp h0
    go_wp2_with fail
    refine (Tryz.slices_Sort_string_none none 0 w1).mono ?_; rintro e w' ⟨rfl, rfl⟩
    go_wp2_with fail
    refine (Tryz.slices_Compact_string_empty none 0 _).mono ?_; rintro e w' ⟨rfl, rfl⟩
    go_wp2_with fail
    go_ret
    exact ⟨_, rfl, by rw [HP.out]; exact OwnS.nil _ _, kw⟩
  · have hown : w1.ownsRow w.heap.size 9 1 v1 (ss ++ tt).length (((ss ++ tt).map bts).map encStr) := by rw [← cells_enc]; exact hv1
    obtain ⟨g, cap, rfl, hbg, hgl, hncap, hcm, hlen, hH⟩ := Lib.holds_of_ownsRow hown hn
    have hcells := putL_cells ss tt
    have hlp : (putL ss tt).length = (sortB ((ss ++ tt).map bts)).length := by simp [putL]
    have HCE := hid hcells; clear hcells
    have HLP := hid hlp; clear hlp
    generalize hb : (ss ++ tt).map bts = bs at *
    generalize hnn : (ss ++ tt).length = n at *
    have hsort := Tryz.slices_Sort_string g 0 cap bs w1 hH hgl (by omega)
    rw [hlen] at hsort
    have HS := hid hsort; clear hsort
    have HO := hid hown; clear hown
    clear hH hv1 hb hnn hn
    have hncap2 : n ≤ cap := hncap
    go_wp2_with fail
    refine HS.out.mono ?_; rintro e w2 ⟨rfl, nn, os, rfl⟩
    have hH2 := sorted_holds (nn := nn) (os := os) HO.out hlen
    have hlm : (bs.mergeSort fun x y => decide (x ≤ y)).length = n := by rw [List.length_mergeSort]; exact hlen
    have hcomp := Tryz.slices_Compact_string g 0 cap (bs.mergeSort fun x y => decide (x ≤ y)) _ hH2 (by omega) (by omega)
    rw [hlm] at hcomp
    have HK := hid hcomp; clear hcomp hH2
    have HE := hid (fun q => sorted_own (w := w) (nn := nn) (q := q) (os := os) HO.out kw hbg hlen)
    generalize hw2 : grow (putRow encStr (Sort.ahead w1 nn) g 0 (bs.mergeSort fun x y => decide (x ≤ y)).toArray) os = w2 at *
    go_wp2_with fail
    refine HK.out.mono ?_; rintro e w3 ⟨rfl, q, rfl⟩
    obtain ⟨ho, hk⟩ := HE.out q
    go_wp2_with fail
    go_ret
    refine ⟨_, rfl, ?_, hk⟩
    unfold OwnS
    rw [HCE.out, HLP.out]
    exact ho
end Go.Proofs.YtajjlnonmaghlaaGreat
/- Plain: what put hands back, as formulas. -/
namespace Go.Proofs.YtajjlnonmaghlaaGreat
open Go.RowKit
theorem range_get (zs : List (List UInt8)) : (List.range zs.length).map (zs.toArray[·]!) = zs := by
  apply List.ext_getElem
  · simp
  · intro i h1 h2
    simp at h1
    simp [h1]
theorem compact_sub (zs : List (List UInt8)) : (Lib.compact zs).Sublist zs := by
  have h : ((List.range zs.length).filter (Lib.keeps zs.toArray)).Sublist (List.range zs.length) := List.filter_sublist
  have h2 := h.map (zs.toArray[·]!)
  rw [range_get] at h2
  exact h2
theorem mem_compact (zs : List (List UInt8)) (j : Nat) (hj : j < zs.length) : zs.toArray[j]! ∈ Lib.compact zs := by
  induction j with
  | zero => exact List.mem_map.2 ⟨0, List.mem_filter.2 ⟨List.mem_range.2 hj, by simp [Lib.keeps]⟩, rfl⟩
  | succ j ih =>
    cases hk : Lib.keeps zs.toArray (j + 1)
    · have : zs.toArray[j + 1]! = zs.toArray[j]! := by simpa [Lib.keeps] using hk
      rw [this]
      exact ih (by omega)
    · exact List.mem_map.2 ⟨j + 1, List.mem_filter.2 ⟨List.mem_range.2 hj, hk⟩, rfl⟩
theorem compact_iff (zs : List (List UInt8)) (x : List UInt8) : x ∈ Lib.compact zs ↔ x ∈ zs := by
  constructor
  · exact fun h => (compact_sub zs).subset h
  · intro h
    obtain ⟨j, hj, rfl⟩ := List.getElem_of_mem h
    have := mem_compact zs j hj
    rwa [getElem!_pos _ _ (by simpa using hj), List.getElem_toArray] at this
theorem sortB_iff (zs : List (List UInt8)) (x : List UInt8) : x ∈ sortB zs ↔ x ∈ zs := by
  rw [sortB, compact_iff]
  exact (List.mergeSort_perm zs _).mem_iff
theorem perm_pre {α β : Type} (f : α → β) {l m : List β} (h : l.Perm m) : ∀ K : List α, m = K.map f → ∃ K' : List α, K'.Perm K ∧ l = K'.map f := by
  induction h with
  | nil => intro K hK; exact ⟨[], by rw [List.map_eq_nil_iff.1 hK.symm], rfl⟩
  | cons x _ ih =>
    intro K hK
    cases K with
    | nil => cases hK
    | cons a K =>
      injection hK with h1 h2
      obtain ⟨K', hp, e⟩ := ih K h2
      exact ⟨a :: K', hp.cons a, by rw [List.map_cons, e, h1]⟩
  | swap x y l =>
    intro K hK
    match K, hK with
    | a :: b :: K, hK =>
      injection hK with h1 h2
      injection h2 with h2 h3
      exact ⟨b :: a :: K, List.Perm.swap a b K, by simp [h1, h2, h3]⟩
  | trans _ _ ih1 ih2 =>
    intro K hK
    obtain ⟨K1, hp1, e1⟩ := ih2 K hK
    obtain ⟨K2, hp2, e2⟩ := ih1 K1 e1
    exact ⟨K2, hp2.trans hp1, e2⟩
/-- put, as formulas -/
theorem put_txts {ss tt : List ByteArray} {G H : List Fm} (h : Txts ss G) (k : Txts tt H) (hG : ∀ a ∈ G, a.wf) (hH : ∀ a ∈ H, a.wf) :
    ∃ R, Txts (putL ss tt) R ∧ (∀ a, a ∈ R ↔ a ∈ G ∨ a ∈ H) ∧ wts R ≤ wts G + wts H ∧ R.length ≤ G.length + H.length := by
  have hb : (ss ++ tt).map bts = (G ++ H).map Fm.body := h.append k
  obtain ⟨K, hp, e⟩ := perm_pre Fm.body (List.mergeSort_perm ((ss ++ tt).map bts) fun x y => decide (x ≤ y)) (G ++ H) hb
  have hs := compact_sub (((ss ++ tt).map bts).mergeSort fun x y => decide (x ≤ y))
  rw [e] at hs
  obtain ⟨R, hR, e2⟩ := List.sublist_map_iff.1 hs
  have hR0 : (putL ss tt).map bts = R.map Fm.body := by
    rw [← e2, ← e]
    simp [putL, Function.comp_def, bts_mkS, sortB]
  refine ⟨R, hR0, fun a => ?_, ?_, ?_⟩
  · constructor
    · intro ha
      have := hp.mem_iff.1 (hR.subset ha)
      exact List.mem_append.1 this
    · intro ha
      have h1 : a.body ∈ (G ++ H).map Fm.body := List.mem_map.2 ⟨a, List.mem_append.2 ha, rfl⟩
      rw [← hb, ← sortB_iff, sortB, e, e2] at h1
      obtain ⟨c, hc, e3⟩ := List.mem_map.1 h1
      have hcw : c.wf := (List.mem_append.1 (hp.mem_iff.1 (hR.subset hc))).elim (hG c) (hH c)
      have haw : a.wf := ha.elim (hG a) (hH a)
      rwa [← body_inj hcw haw e3]
  · have := wts_sub hR
    rw [wts_perm hp, wts_append] at this
    exact this
  · have := hR.length_le
    rw [hp.length_eq, List.length_append] at this
    exact this
end Go.Proofs.YtajjlnonmaghlaaGreat
/- Plain: keys of sequents are read in one way; what is left when a formula is dropped; goals. -/
namespace Go.Proofs.YtajjlnonmaghlaaGreat
open Go.RowKit
theorem split_one (z : UInt8) : ∀ (xs ys X Y : List UInt8), z ∉ xs → z ∉ ys → xs ++ z :: X = ys ++ z :: Y → xs = ys ∧ X = Y
  | [], [], X, Y, _, _, h => by simpa using h
  | [], y :: ys, X, Y, _, hy, h => by injection h with h1 _; exact absurd (by simp [h1]) hy
  | x :: xs, [], X, Y, hx, _, h => by injection h with h1 _; exact absurd (by simp [h1]) hx
  | x :: xs, y :: ys, X, Y, hx, hy, h => by
    injection h with h1 h2
    obtain ⟨h3, h4⟩ := split_one z xs ys X Y (fun h => hx (by simp [h])) (fun h => hy (by simp [h])) h2
    exact ⟨by rw [h1, h3], h4⟩
def Clean (bs : List (List UInt8)) : Prop := ∀ b ∈ bs, (47 : UInt8) ∉ b ∧ (59 : UInt8) ∉ b ∧ b ≠ []
theorem key_split : ∀ (bs cs : List (List UInt8)) (X Y : List UInt8), Clean bs → Clean cs → keyL bs ++ (59 :: X) = keyL cs ++ (59 :: Y) → bs = cs ∧ X = Y
  | [], [], X, Y, _, _, h => by simpa [keyL] using h
  | [], c :: cs, X, Y, _, hc, h => by
    obtain ⟨_, h2, h3⟩ := hc c (by simp)
    cases c with
    | nil => exact absurd rfl h3
    | cons x c => simp [keyL] at h; exact absurd (by simp [h.1]) h2
  | b :: bs, [], X, Y, hb, _, h => by
    obtain ⟨_, h2, h3⟩ := hb b (by simp)
    cases b with
    | nil => exact absurd rfl h3
    | cons x c => simp [keyL] at h; exact absurd (by simp [h.1]) h2
  | b :: bs, c :: cs, X, Y, hb, hc, h => by
    have e1 : keyL (b :: bs) ++ (59 :: X) = b ++ 47 :: (keyL bs ++ (59 :: X)) := by simp [keyL]
    have e2 : keyL (c :: cs) ++ (59 :: Y) = c ++ 47 :: (keyL cs ++ (59 :: Y)) := by simp [keyL]
    rw [e1, e2] at h
    obtain ⟨h1, h2⟩ := split_one 47 _ _ _ _ (hb b (by simp)).1 (hc c (by simp)).1 h
    obtain ⟨h3, h4⟩ := key_split bs cs X Y (fun x hx => hb x (by simp [hx])) (fun x hx => hc x (by simp [hx])) h2
    exact ⟨by rw [h1, h3], h4⟩
/-- a formula that the decider meets -/
def OkF (t : Fm) : Prop := t.wf ∧ t.plain = true
def OkL (G : List Fm) : Prop := ∀ a ∈ G, OkF a
theorem OkF.clean {t : Fm} (h : t.wf) : (47 : UInt8) ∉ t.body ∧ (59 : UInt8) ∉ t.body ∧ t.body ≠ [] :=
  ⟨fun hm => (body_bytes t h _ hm).1 rfl, fun hm => (body_bytes t h _ hm).2.1 rfl, fun e => by have := body_pos t; rw [e] at this; simp at this⟩
theorem OkL.clean {G : List Fm} (h : OkL G) : Clean (G.map Fm.body) := by
  intro b hb
  obtain ⟨a, ha, rfl⟩ := List.mem_map.1 hb
  exact OkF.clean (h a ha).1
theorem bodies_inj : ∀ {G H : List Fm}, OkL G → OkL H → G.map Fm.body = H.map Fm.body → G = H
  | [], [], _, _, _ => rfl
  | [], b :: H, _, _, h => by simp at h
  | a :: G, [], _, _, h => by simp at h
  | a :: G, b :: H, hG, hH, h => by
    simp only [List.map_cons] at h
    injection h with h1 h2
    rw [body_inj (hG a (by simp)).1 (hH b (by simp)).1 h1, bodies_inj (fun x hx => hG x (by simp [hx])) (fun x hx => hH x (by simp [hx])) h2]
def keyF (G : List Fm) (c : Fm) : List UInt8 := keyOf (G.map Fm.body) [c.body]
theorem keyF_inj {G H : List Fm} {c d : Fm} (hG : OkL G) (hH : OkL H) (hc : OkF c) (hd : OkF d) (h : keyF G c = keyF H d) : G = H ∧ c = d := by
  obtain ⟨h1, h2⟩ := key_split _ _ _ _ hG.clean hH.clean h
  refine ⟨bodies_inj hG hH h1, body_inj hc.1 hd.1 ?_⟩
  have e1 : keyL [c.body] = c.body ++ 47 :: [] := by simp [keyL]
  have e2 : keyL [d.body] = d.body ++ 47 :: [] := by simp [keyL]
  rw [e1, e2] at h2
  exact (split_one 47 _ _ _ _ (OkF.clean hc.1).1 (OkF.clean hd.1).1 h2).1
/-! ### drop -/
theorem drop_txts {x : ByteArray} {t : Fm} (hx : bts x = t.body) (ht : t.wf) : ∀ {ss : List ByteArray} {G : List Fm}, Txts ss G → (∀ a ∈ G, a.wf) → Txts (ss.filter fun s => !(s.toList == x.toList)) (G.filter fun a => !decide (a = t))
  | [], [], _, _ => rfl
  | [], b :: G, h, _ => by simp [Txts] at h
  | s :: ss, [], h, _ => by simp [Txts] at h
  | s :: ss, b :: G, h, hG => by
    unfold Txts at h
    simp only [List.map_cons] at h
    injection h with h1 h2
    have ih := drop_txts hx ht (ss := ss) (G := G) h2 (fun a ha => hG a (by simp [ha]))
    have hb : b.wf := hG b (by simp)
    have e : (s.toList == x.toList) = decide (b = t) := by
      rw [beq_bts, h1, hx, Bool.eq_iff_iff, decide_eq_true_iff, decide_eq_true_iff]
      exact ⟨body_inj hb ht, fun h => by rw [h]⟩
    by_cases hbt : b = t
    · simp [hbt, e]; simpa using ih
    · unfold Txts at ih ⊢
      simp [hbt, e, h1]; simpa using ih
theorem mem_without {G : List Fm} {t a : Fm} : a ∈ G.filter (fun a => !decide (a = t)) ↔ a ∈ G ∧ a ≠ t := by simp
theorem wts_without {G : List Fm} {t : Fm} (h : t ∈ G) : wts (G.filter fun a => !decide (a = t)) + wt t ≤ wts G := by
  induction G with
  | nil => cases h
  | cons b G ih =>
    by_cases hb : b = t
    · subst hb
      have h1 := wts_sub (List.filter_sublist (l := G) (p := fun a => !decide (a = b)))
      simp [wts]
      omega
    · rcases List.mem_cons.1 h with rfl | h
      · exact absurd rfl hb
      · have := ih h
        simp [hb, wts]
        omega
/-- what instead puts together -/
theorem instead_mem {G T R : List Fm} {t : Fm} (h : t ∈ G) (hR : ∀ a, a ∈ R ↔ a ∈ G.filter (fun a => !decide (a = t)) ∨ a ∈ T) :
    (∀ a, a ∈ G ↔ a = t ∨ a ∈ G.filter (fun a => !decide (a = t))) ∧ (∀ a, a ∈ R ↔ a ∈ T ∨ a ∈ G.filter (fun a => !decide (a = t))) := by
  refine ⟨fun a => ?_, fun a => (hR a).trans or_comm⟩
  rw [mem_without]
  constructor
  · intro ha
    by_cases e : a = t
    · exact .inl e
    · exact .inr ⟨ha, e⟩
  · rintro (rfl | ⟨ha, _⟩)
    · exact h
    · exact ha
/-- a goal's two values -/
def GoalIs (w : World) (v : Value) (s : ByteArray) (G : List Fm) (c : Fm) : Prop := (∃ ss, Strs w v ss ∧ Txts ss G) ∧ bts s = c.body
end Go.Proofs.YtajjlnonmaghlaaGreat
