/- The draw of a known theorem. (printed by mkd32.py) -/
import Derived.Test.YtgnehffglhbggaaGreatGD33
namespace Go.Proofs.YtgnehffglhbggaaGreat
open Go.RowKit
theorem preD (k : Nat) (hk : k < 2) (t : Fm) (ht : t.wf) (hl : t.enc.length ≤ 100) (v : Value) (w : World) (hn : Nds w v t.enc) :
    Calls Tryz.prog 135 #[.int .i64 (5 + (k : Int)), v] w fun e w' => ∃ p n c z, e = .returned (.slice p n c) ∧ OwnN w' w.heap.size (.slice p n c) (Fm.enc z) ∧ Fm.wf z ∧ (Fm.enc z).length = t.enc.length + 1 ∧ Keeps w w' := by
  obtain ⟨z, hz, hzl, okz⟩ := pre_treeW k ht hk
  have h := l02Pre_any (5 + (k : Int)) t.enc v w hn (by omega)
  rw [hz] at h
  refine h.mono ?_
  rintro e w' ⟨v', rfl, ho, kk⟩
  obtain ⟨p, n, c, rfl⟩ := ho.own_shape
  exact ⟨p, n, c, z, rfl, ho, okz, hzl, kk⟩
theorem pairD (k : Nat) (hk : k < 3) (t u : Fm) (ht : t.wf) (hu : u.wf) (hl : t.enc.length ≤ 100) (hl' : u.enc.length ≤ 100) (v v' : Value) (w : World) (hn : Nds w v t.enc) (hn' : Nds w v' u.enc) :
    Calls Tryz.prog 134 #[.int .i64 (2 + (k : Int)), v, v'] w fun e w' => ∃ p n c z, e = .returned (.slice p n c) ∧ OwnN w' w.heap.size (.slice p n c) (Fm.enc z) ∧ Fm.wf z ∧ (Fm.enc z).length = t.enc.length + u.enc.length + 1 ∧ Keeps w w' := by
  obtain ⟨z, hz, hzl, okz⟩ := pair_treeW k ht hu hk
  have h := l02Pair_any (2 + (k : Int)) t.enc u.enc v v' w hn hn' (by omega)
  rw [hz] at h
  refine h.mono ?_
  rintro e w' ⟨v', rfl, ho, kk⟩
  obtain ⟨p, n, c, rfl⟩ := ho.own_shape
  exact ⟨p, n, c, z, rfl, ho, okz, hzl, kk⟩
theorem textD (t : Fm) (ht : t.wf) (hl : t.enc.length ≤ 40) (v : Value) (w : World) (hn : Nds w v t.enc) :
    Calls Tryz.prog 56 #[v] w fun e w' => ∃ s, e = .returned (.string s) ∧ s.size ≤ 200 ∧ Keeps w w' := by
  refine (l02TextA t ht (by omega) v w hn).mono ?_
  rintro e w' ⟨s, rfl, hb, k⟩
  exact ⟨s, rfl, (show IsTx s t from ⟨ht, hb, hl⟩).small, k⟩
theorem lit1D (w : World) (s : ByteArray) : OwnS (w.alloc (.cells #[.string s] 9)) w.heap.size (.slice (some ⟨w.heap.size, 0, none⟩) 1 1) [s] := by
  have h := World.ownsRow_lit (base := w.heap.size) (e := 9) (size := 1) w #[.string s] 1 (Nat.le_refl _) (by simp [maxLen]) (by simp)
  exact h
/-- a drawn logic and sequent -/
def KnD (B : Nat) (w : World) (e : Ending) (w' : World) : Prop := ∃ s x y, e = .returned (.tuple #[.string s, .agg #[x, y]]) ∧ s.size ≤ 4 ∧ SideD 4 w' w.heap.size x ∧ SideD 4 w' w.heap.size y ∧ Dr B w w'
--
theorem entNext : Enters 91 := fun _ _ => by kernel_rfl
theorem entPre : Enters 135 := fun _ _ => by kernel_rfl
theorem entPair : Enters 134 := fun _ _ => by kernel_rfl
theorem entText : Enters 56 := fun _ _ => by kernel_rfl
theorem entInsert : Enters 136 := fun _ _ => by kernel_rfl
def kdKn (r0 : Nat) : Nat → Kd
  | 0 => .src
  | 2 => .txt4
  | 3 => .box r0
  | 4 => .fm 3
  | 5 => .fm 3
  | 6 => .fm 7
  | 7 => .fm 4
  | 21 => .names [⟨#[75]⟩, ⟨#[68]⟩, ⟨#[84]⟩, ⟨#[75, 52]⟩, ⟨#[83, 52]⟩, ⟨#[71, 76]⟩, ⟨#[83, 53]⟩]
  | 22 => .src
  | 23 => .rnd 7
  | 24 => .ptr
  | 25 => .txt4
  | 26 => .fm 7
  | 27 => .fm 8
  | 28 => .str
  | 29 => .one
  | 30 => .fm 4
  | 31 => .str
  | 32 => .side
  | 33 => .fm 3
  | 34 => .fm 4
  | 35 => .str
  | 36 => .side
  | 37 => .seq
  | 40 => .names [⟨#[84]⟩, ⟨#[83, 52]⟩, ⟨#[83, 53]⟩]
  | 41 => .src
  | 42 => .rnd 3
  | 43 => .ptr
  | 44 => .txt4
  | 45 => .fm 4
  | 46 => .str
  | 47 => .side
  | 48 => .fm 3
  | 49 => .str
  | 50 => .side
  | 51 => .seq
  | 54 => .names [⟨#[75, 52]⟩, ⟨#[83, 52]⟩, ⟨#[71, 76]⟩, ⟨#[83, 53]⟩]
  | 55 => .src
  | 56 => .rnd 4
  | 57 => .ptr
  | 58 => .txt4
  | 59 => .fm 4
  | 60 => .str
  | 61 => .side
  | 62 => .fm 4
  | 63 => .fm 5
  | 64 => .str
  | 65 => .side
  | 66 => .seq
  | 91 => .names [⟨#[75]⟩, ⟨#[84]⟩, ⟨#[83, 52]⟩]
  | 92 => .src
  | 93 => .rnd 3
  | 94 => .ptr
  | 95 => .txt4
  | 96 => .fm 3
  | 97 => .fm 3
  | 98 => .fm 7
  | 99 => .fm 8
  | 100 => .str
  | 101 => .side
  | 102 => .fm 3
  | 103 => .fm 4
  | 104 => .str
  | 105 => .one
  | 106 => .fm 3
  | 107 => .fm 4
  | 108 => .str
  | 109 => .side
  | 110 => .seq
  | 111 => .names [⟨#[75]⟩, ⟨#[84]⟩, ⟨#[71, 76]⟩]
  | 112 => .src
  | 113 => .rnd 3
  | 114 => .ptr
  | 115 => .txt4
  | 116 => .side
  | 117 => .fm 3
  | 118 => .fm 3
  | 119 => .fm 7
  | 120 => .fm 3
  | 121 => .fm 11
  | 122 => .str
  | 123 => .side
  | 124 => .seq
  | _ => .any
set_option maxRecDepth 100000 in
set_option maxHeartbeats 8000000 in
theorem l11Known_any (B : Nat) (w : World) (hs : Src w B) : Calls Tryz.prog 92 #[.pointer (some ⟨B, 0, none⟩)] w (KnD B w) := by
  have kA := (Keeps.refl w).alloc (.cells #[.slice none 0 0, .slice none 0 0] 29)
  have hb := BoxG.made w 29 [.slice none 0 0, .slice none 0 0] (by simp) (by simp)
  have d0 := Dr.of hs kA
  have hB := hs.lt
  have hz0 : (w.alloc (.cells #[.slice none 0 0, .slice none 0 0] 29)).heap.size = w.heap.size + 1 := by simp
  have H1 := hid (l02DrawW_any B 2 (by omega) true 3 (by omega) _ d0.2)
  go_enter Tryz.func92, Tryz.ntmps92
  go_wp2_with fail
  refine H1.out.mono ?_; rintro e w1 ⟨v1, ta, rfl, ha, hla, hwa, d1⟩
  have H2 := hid (l02DrawW_any B 2 (by omega) true 3 (by omega) w1 d1.2)
  have hB1 := d1.2.lt
  rw [hz0] at ha
  have hb1 := hb.dr d1 (by omega)
  have D1 := d0.trans d1
  obtain ⟨pa, na, qa, rfl⟩ := ha.own_shape
  clear hb d0 kA
  go_wp2_with fail
  refine H2.out.mono ?_; rintro e w2 ⟨v2, tb, rfl, hbb, hlb, hwb, d2⟩
  have hb2 := hb1.dr d2 (by omega)
  have ha2 := ha.dr d2 (by omega)
  have hbb2 := hbb.mono (show w.heap.size + 1 ≤ w1.heap.size by have := d1.size; omega)
  have D2 := D1.trans d2
  obtain ⟨pb, nb, qb, rfl⟩ := hbb.own_shape
  have H3 := hid (pairD 2 (by omega) ta tb hwa hwb (by omega) (by omega) _ _ w2 (ha2.nds (by omega)) (hbb2.nds (by omega)))
  clear hb1 d1 d2 D1 ha hbb
  go_wp2_with fail
  refine H3.out.mono ?_; rintro e w3 ⟨pi, ni, qi, ti, rfl, hi, hwi, hli, k3⟩
  have H4 := hid (preD 0 (by omega) ta hwa (by omega) _ w3 ((ha2.keeps k3).nds (by omega)))
  go_wp2_with fail
  refine H4.out.mono ?_; rintro e w4 ⟨px, nx, qx, tx, rfl, hx, hwx, hlx, k4⟩
  have D4 := (D2.keeps k3).keeps k4
  have hb4 := (hb2.keeps k3).keeps k4
  have ha4 := (ha2.keeps k3).keeps k4
  have hbb4 := (hbb2.keeps k3).keeps k4
  have hi4 := (hi.keeps k4).mono (show w.heap.size + 1 ≤ w2.heap.size by have := (ha2.len); have := D2.size; have := hb2.lt; omega)
  have hx4 := hx.mono (show w.heap.size + 1 ≤ w3.heap.size by have := (hb2.keeps k3).lt; omega)
  clear ha2 hbb2 hb2 hi hx k3 k4 D2 H1 H2 H3 H4
  go_wp2_with fail
  refine (l01Next_any 7 B _ D4.2 (by omega)).mono ?_; rintro e w5 ⟨r5, rfl, hr5, d5⟩
  have D5 := D4.trans d5
  have hb5 := hb4.dr d5 (by omega)
  have ha5 := ha4.dr d5 (by omega)
  have hbb5 := hbb4.dr d5 (by omega)
  have hi5 := hi4.dr d5 (by omega)
  have hx5 := hx4.dr d5 (by omega)
  have HA := hid (fun wz (D : Dr B w5 wz) => (ha5.dr D (by omega)).nds (by omega))
  have HBB := hid (fun wz (D : Dr B w5 wz) => (hbb5.dr D (by omega)).nds (by omega))
  have HIM := hid (fun wz (D : Dr B w5 wz) => (hi5.dr D (by omega)).nds (by omega))
  have HBX := hid (fun wz (D : Dr B w5 wz) => (hx5.dr D (by omega)).nds (by omega))
  have hw5 : w.heap.size < w5.heap.size := hb5.lt
  have HD5 := hid D5
  have HB5 := hid hb5
  have HSRC := hid D5.2
  have kd5 := (Keeps.refl w5).drew
  have HJ : Hid (JD B w.heap.size w.heap.size w w5.drew) := hid ⟨D5.keeps kd5, D5.2.keeps kd5, Nat.le_trans (by omega) kd5.size, hB, Nat.le_refl _, hb5.keeps kd5⟩
  have hinq : ∀ s, ([0, 3, 4, 5, 6, 7] : List Nat).contains s = true → s = 0 ∨ s = 3 ∨ s = 4 ∨ s = 5 ∨ s = 6 ∨ s = 7 := fun s hs => by simpa using hs
  have HI4 : Hid ((Kd.fm 3).holds B w.heap.size (.slice pa na qa) w5.drew) := hid ⟨ta, _, hwa, by omega, by omega, ha5.keeps kd5⟩
  have HI5 : Hid ((Kd.fm 3).holds B w.heap.size (.slice pb nb qb) w5.drew) := hid ⟨tb, _, hwb, by omega, by omega, hbb5.keeps kd5⟩
  have HI6 : Hid ((Kd.fm 7).holds B w.heap.size (.slice pi ni qi) w5.drew) := hid ⟨ti, _, hwi, by omega, by omega, hi5.keeps kd5⟩
  have HI7 : Hid ((Kd.fm 4).holds B w.heap.size (.slice px nx qx) w5.drew) := hid ⟨tx, _, hwx, by omega, by omega, hx5.keeps kd5⟩
  have HINQ := hid hinq
  clear ha4 hbb4 hi4 hx4 hb4 D4 d5 D5 hb5 ha5 hbb5 hi5 hx5 hinq kd5
  by_cases h0 : r5 = 0
  · subst h0
    go_wp2_with fail
    refine wp_region_slots (L := 18) (nt := 125) (ins := [0, 3, 4, 5, 6, 7]) (by kernel_rfl) (by kernel_rfl) (fun s v wz => (kdKn w.heap.size s).holds B w.heap.size v wz) (Dr B) (fun _ _ _ _ h => Kd.dr hB h) (JD B w.heap.size w.heap.size w) (fun _ _ k h => h.dr k) ?_ (by kernel_rfl) rfl HJ.out (fun s hs => ?_)
    rotate_left
    · rcases HINQ.out s hs with rfl | rfl | rfl | rfl | rfl | rfl
      · exact (rfl : _ = _)
      · exact (rfl : _ = _)
      · exact HI4.out
      · exact HI5.out
      · exact HI6.out
      · exact HI7.out
    refine ⟨?_, ?_, ?_, ?_, ?_, ?_, ?_, ?_, ?_, ?_, ?_, ?_, ?_, ?_, ?_, ?_, ?_, ?_, ?_, True.intro⟩
    · rw [if_neg (by decide)]
      exact stNames [⟨#[75]⟩, ⟨#[68]⟩, ⟨#[84]⟩, ⟨#[75, 52]⟩, ⟨#[83, 52]⟩, ⟨#[71, 76]⟩, ⟨#[83, 53]⟩] (by decide) (fun a w => by kernel_rfl) (fun d hd => by cases hd; rfl)
    · rw [if_neg (by decide)]
      exact stMove 0 (.inl rfl) (by kernel_rfl) (fun d hd => by cases hd; rfl)
    · rw [if_neg (by decide)]
      exact stNext 7 (by decide) (by decide) 22 _ rfl entNext (by kernel_rfl) rfl (fun d hd => by cases hd; rfl)
    · rw [if_neg (by decide)]
      exact stIndex [⟨#[75]⟩, ⟨#[68]⟩, ⟨#[84]⟩, ⟨#[75, 52]⟩, ⟨#[83, 52]⟩, ⟨#[71, 76]⟩, ⟨#[83, 53]⟩] (by decide) (by decide) 7 (by decide) 21 23 rfl (by kernel_rfl) (by kernel_rfl) rfl rfl (fun d hd => by cases hd; rfl)
    · rw [if_neg (by decide)]
      exact stLoad 24 rfl (by kernel_rfl) rfl (fun d hd => by cases hd; rfl)
    · rw [if_neg (by decide)]
      exact stMove 6 (.inl rfl) (by kernel_rfl) (fun d hd => by cases hd; rfl)
    · rw [if_neg (by decide)]
      exact stPre 0 7 (by decide) (by decide) 26 _ rfl entPre (by kernel_rfl) rfl (fun d hd => by cases hd; rfl)
    · rw [if_neg (by decide)]
      exact stText 8 (by decide) 27 _ rfl entText (by kernel_rfl) rfl (fun d hd => by cases hd; rfl)
    · rw [if_neg (by decide)]
      exact stOne 28 rfl (by kernel_rfl) rfl (fun d hd => by cases hd; exact .inl rfl)
    · rw [if_neg (by decide)]
      exact stMove 7 (.inl rfl) (by kernel_rfl) (fun d hd => by cases hd; rfl)
    · rw [if_neg (by decide)]
      exact stText 4 (by decide) 30 _ rfl entText (by kernel_rfl) rfl (fun d hd => by cases hd; rfl)
    · rw [if_neg (by decide)]
      exact stInsert 29 31 _ rfl entInsert (by kernel_rfl) (by kernel_rfl) rfl rfl (fun d hd => by cases hd; rfl)
    · rw [if_neg (by decide)]
      exact stMove 5 (.inl rfl) (by kernel_rfl) (fun d hd => by cases hd; rfl)
    · rw [if_neg (by decide)]
      exact stPre 0 3 (by decide) (by decide) 33 _ rfl entPre (by kernel_rfl) rfl (fun d hd => by cases hd; rfl)
    · rw [if_neg (by decide)]
      exact stText 4 (by decide) 34 _ rfl entText (by kernel_rfl) rfl (fun d hd => by cases hd; rfl)
    · rw [if_neg (by decide)]
      exact stOne 35 rfl (by kernel_rfl) rfl (fun d hd => by cases hd; exact .inr rfl)
    · rw [if_neg (by decide)]
      exact stBuild 32 36 rfl (by kernel_rfl) (by kernel_rfl) rfl rfl (fun d hd => by cases hd; rfl)
    · rw [if_neg (by decide)]
      exact stMove 25 (.inr rfl) (by kernel_rfl) (fun d hd => by cases hd; rfl)
    · rw [if_pos rfl]
      refine stStore 3 37 rfl rfl 16 (by kernel_rfl) (by decide) (by kernel_rfl) rfl rfl (Nat.le_refl _) ?_
      intro a w' x y D h
      obtain ⟨s, e2, hs2⟩ := h.dsts 17 2 (by decide) (by kernel_rfl) rfl
      have e3 := h.ptr 3 (by kernel_rfl) rfl
      obtain ⟨p, n, c, rfl⟩ := h.x1
      obtain ⟨q, m, d, rfl⟩ := h.y1
      have y0 := h.c0
      have y1 := h.c1
      have HK := hid (show KnD B w (.returned (.tuple #[.string s, .agg #[.slice p n c, .slice q m d]])) w' from ⟨s, _, _, rfl, hs2, h.sx, h.sy, D⟩)
      have r2 : a.tmps.getD 2 undef = .string s := e2
      have r3 : a.tmps.getD 3 undef = .pointer (some ⟨w.heap.size, 0, none⟩) := e3
      rw [Array.getD_eq_getD_getElem?] at r2 r3
      have hdf := h.df
      simp only [Exit.then]
      go_wp2_with fail
      exact bodyPost_ret (v := .tuple #[.string s, .agg #[.slice p n c, .slice q m d]]) (by simp [results, Tryz.results92, go_sem, y0, y1, r2, r3]) hdf HK.out
  · have h0' : ((r5 : Nat) : Int) ≠ 0 := by omega
    by_cases h1 : r5 = 1
    · subst h1
      go_wp2_with fail
      refine wp_region_slots (L := 13) (nt := 125) (ins := [0, 3, 4, 5, 6, 7]) (by kernel_rfl) (by kernel_rfl) (fun s v wz => (kdKn w.heap.size s).holds B w.heap.size v wz) (Dr B) (fun _ _ _ _ h => Kd.dr hB h) (JD B w.heap.size w.heap.size w) (fun _ _ k h => h.dr k) ?_ (by kernel_rfl) rfl HJ.out (fun s hs => ?_)
      rotate_left
      · rcases HINQ.out s hs with rfl | rfl | rfl | rfl | rfl | rfl
        · exact (rfl : _ = _)
        · exact (rfl : _ = _)
        · exact HI4.out
        · exact HI5.out
        · exact HI6.out
        · exact HI7.out
      refine ⟨?_, ?_, ?_, ?_, ?_, ?_, ?_, ?_, ?_, ?_, ?_, ?_, ?_, ?_, True.intro⟩
      · rw [if_neg (by decide)]
        exact stNames [⟨#[84]⟩, ⟨#[83, 52]⟩, ⟨#[83, 53]⟩] (by decide) (fun a w => by kernel_rfl) (fun d hd => by cases hd; rfl)
      · rw [if_neg (by decide)]
        exact stMove 0 (.inl rfl) (by kernel_rfl) (fun d hd => by cases hd; rfl)
      · rw [if_neg (by decide)]
        exact stNext 3 (by decide) (by decide) 41 _ rfl entNext (by kernel_rfl) rfl (fun d hd => by cases hd; rfl)
      · rw [if_neg (by decide)]
        exact stIndex [⟨#[84]⟩, ⟨#[83, 52]⟩, ⟨#[83, 53]⟩] (by decide) (by decide) 3 (by decide) 40 42 rfl (by kernel_rfl) (by kernel_rfl) rfl rfl (fun d hd => by cases hd; rfl)
      · rw [if_neg (by decide)]
        exact stLoad 43 rfl (by kernel_rfl) rfl (fun d hd => by cases hd; rfl)
      · rw [if_neg (by decide)]
        exact stMove 7 (.inl rfl) (by kernel_rfl) (fun d hd => by cases hd; rfl)
      · rw [if_neg (by decide)]
        exact stText 4 (by decide) 45 _ rfl entText (by kernel_rfl) rfl (fun d hd => by cases hd; rfl)
      · rw [if_neg (by decide)]
        exact stOne 46 rfl (by kernel_rfl) rfl (fun d hd => by cases hd; exact .inr rfl)
      · rw [if_neg (by decide)]
        exact stMove 4 (.inl rfl) (by kernel_rfl) (fun d hd => by cases hd; rfl)
      · rw [if_neg (by decide)]
        exact stText 3 (by decide) 48 _ rfl entText (by kernel_rfl) rfl (fun d hd => by cases hd; rfl)
      · rw [if_neg (by decide)]
        exact stOne 49 rfl (by kernel_rfl) rfl (fun d hd => by cases hd; exact .inr rfl)
      · rw [if_neg (by decide)]
        exact stBuild 47 50 rfl (by kernel_rfl) (by kernel_rfl) rfl rfl (fun d hd => by cases hd; rfl)
      · rw [if_neg (by decide)]
        exact stMove 44 (.inr rfl) (by kernel_rfl) (fun d hd => by cases hd; rfl)
      · rw [if_pos rfl]
        refine stStore 3 51 rfl rfl 11 (by kernel_rfl) (by decide) (by kernel_rfl) rfl rfl (Nat.le_refl _) ?_
        intro a w' x y D h
        obtain ⟨s, e2, hs2⟩ := h.dsts 12 2 (by decide) (by kernel_rfl) rfl
        have e3 := h.ptr 3 (by kernel_rfl) rfl
        obtain ⟨p, n, c, rfl⟩ := h.x1
        obtain ⟨q, m, d, rfl⟩ := h.y1
        have y0 := h.c0
        have y1 := h.c1
        have HK := hid (show KnD B w (.returned (.tuple #[.string s, .agg #[.slice p n c, .slice q m d]])) w' from ⟨s, _, _, rfl, hs2, h.sx, h.sy, D⟩)
        have r2 : a.tmps.getD 2 undef = .string s := e2
        have r3 : a.tmps.getD 3 undef = .pointer (some ⟨w.heap.size, 0, none⟩) := e3
        rw [Array.getD_eq_getD_getElem?] at r2 r3
        have hdf := h.df
        simp only [Exit.then]
        go_wp2_with fail
        exact bodyPost_ret (v := .tuple #[.string s, .agg #[.slice p n c, .slice q m d]]) (by simp [results, Tryz.results92, go_sem, y0, y1, r2, r3]) hdf HK.out
    · have h1' : ((r5 : Nat) : Int) ≠ 1 := by omega
      by_cases h2 : r5 = 2
      · subst h2
        go_wp2_with fail
        refine wp_region_slots (L := 14) (nt := 125) (ins := [0, 3, 4, 5, 6, 7]) (by kernel_rfl) (by kernel_rfl) (fun s v wz => (kdKn w.heap.size s).holds B w.heap.size v wz) (Dr B) (fun _ _ _ _ h => Kd.dr hB h) (JD B w.heap.size w.heap.size w) (fun _ _ k h => h.dr k) ?_ (by kernel_rfl) rfl HJ.out (fun s hs => ?_)
        rotate_left
        · rcases HINQ.out s hs with rfl | rfl | rfl | rfl | rfl | rfl
          · exact (rfl : _ = _)
          · exact (rfl : _ = _)
          · exact HI4.out
          · exact HI5.out
          · exact HI6.out
          · exact HI7.out
        refine ⟨?_, ?_, ?_, ?_, ?_, ?_, ?_, ?_, ?_, ?_, ?_, ?_, ?_, ?_, ?_, True.intro⟩
        · rw [if_neg (by decide)]
          exact stNames [⟨#[75, 52]⟩, ⟨#[83, 52]⟩, ⟨#[71, 76]⟩, ⟨#[83, 53]⟩] (by decide) (fun a w => by kernel_rfl) (fun d hd => by cases hd; rfl)
        · rw [if_neg (by decide)]
          exact stMove 0 (.inl rfl) (by kernel_rfl) (fun d hd => by cases hd; rfl)
        · rw [if_neg (by decide)]
          exact stNext 4 (by decide) (by decide) 55 _ rfl entNext (by kernel_rfl) rfl (fun d hd => by cases hd; rfl)
        · rw [if_neg (by decide)]
          exact stIndex [⟨#[75, 52]⟩, ⟨#[83, 52]⟩, ⟨#[71, 76]⟩, ⟨#[83, 53]⟩] (by decide) (by decide) 4 (by decide) 54 56 rfl (by kernel_rfl) (by kernel_rfl) rfl rfl (fun d hd => by cases hd; rfl)
        · rw [if_neg (by decide)]
          exact stLoad 57 rfl (by kernel_rfl) rfl (fun d hd => by cases hd; rfl)
        · rw [if_neg (by decide)]
          exact stMove 7 (.inl rfl) (by kernel_rfl) (fun d hd => by cases hd; rfl)
        · rw [if_neg (by decide)]
          exact stText 4 (by decide) 59 _ rfl entText (by kernel_rfl) rfl (fun d hd => by cases hd; rfl)
        · rw [if_neg (by decide)]
          exact stOne 60 rfl (by kernel_rfl) rfl (fun d hd => by cases hd; exact .inr rfl)
        · rw [if_neg (by decide)]
          exact stMove 7 (.inl rfl) (by kernel_rfl) (fun d hd => by cases hd; rfl)
        · rw [if_neg (by decide)]
          exact stPre 0 4 (by decide) (by decide) 62 _ rfl entPre (by kernel_rfl) rfl (fun d hd => by cases hd; rfl)
        · rw [if_neg (by decide)]
          exact stText 5 (by decide) 63 _ rfl entText (by kernel_rfl) rfl (fun d hd => by cases hd; rfl)
        · rw [if_neg (by decide)]
          exact stOne 64 rfl (by kernel_rfl) rfl (fun d hd => by cases hd; exact .inr rfl)
        · rw [if_neg (by decide)]
          exact stBuild 61 65 rfl (by kernel_rfl) (by kernel_rfl) rfl rfl (fun d hd => by cases hd; rfl)
        · rw [if_neg (by decide)]
          exact stMove 58 (.inr rfl) (by kernel_rfl) (fun d hd => by cases hd; rfl)
        · rw [if_pos rfl]
          refine stStore 3 66 rfl rfl 12 (by kernel_rfl) (by decide) (by kernel_rfl) rfl rfl (Nat.le_refl _) ?_
          intro a w' x y D h
          obtain ⟨s, e2, hs2⟩ := h.dsts 13 2 (by decide) (by kernel_rfl) rfl
          have e3 := h.ptr 3 (by kernel_rfl) rfl
          obtain ⟨p, n, c, rfl⟩ := h.x1
          obtain ⟨q, m, d, rfl⟩ := h.y1
          have y0 := h.c0
          have y1 := h.c1
          have HK := hid (show KnD B w (.returned (.tuple #[.string s, .agg #[.slice p n c, .slice q m d]])) w' from ⟨s, _, _, rfl, hs2, h.sx, h.sy, D⟩)
          have r2 : a.tmps.getD 2 undef = .string s := e2
          have r3 : a.tmps.getD 3 undef = .pointer (some ⟨w.heap.size, 0, none⟩) := e3
          rw [Array.getD_eq_getD_getElem?] at r2 r3
          have hdf := h.df
          simp only [Exit.then]
          go_wp2_with fail
          exact bodyPost_ret (v := .tuple #[.string s, .agg #[.slice p n c, .slice q m d]]) (by simp [results, Tryz.results92, go_sem, y0, y1, r2, r3]) hdf HK.out
      · have h2' : ((r5 : Nat) : Int) ≠ 2 := by omega
        by_cases h3 : r5 = 3
        · subst h3
          have DD : Dr B w5 w5 := Dr.of HSRC.out (Keeps.refl w5)
          have bd := HB5.out
          go_wp2_with fail
          refine (pairD 2 (by omega) tx ta hwx hwa (by omega) (by omega) _ _ w5 (HBX.out w5 DD) (HA.out w5 DD)).mono ?_; rintro e W2 ⟨p2, n2, q2, z2, rfl, ho2, hw2, hl2, k2⟩
          have D2 := DD.keeps k2
          have b2 := bd.keeps k2
          go_wp2_with fail
          refine (preD 0 (by omega) z2 hw2 (by omega) _ W2 (ho2.nds (by omega))).mono ?_; rintro e W3 ⟨p3, n3, q3, z3, rfl, ho3, hw3, hl3, k3⟩
          have D3 := D2.keeps k3
          have b3 := b2.keeps k3
          go_wp2_with fail
          refine (textD z3 hw3 (by omega) _ W3 (ho3.nds (by omega))).mono ?_; rintro e W4 ⟨s4, rfl, hs4, k4⟩
          have D4 := D3.keeps k4
          have b4 := b3.keeps k4
          have ka5 := (Keeps.refl W4).alloc (.cells #[.string s4] 9)
          have sd5 := lit1D W4 s4
          have gs5 : w.heap.size ≤ W4.heap.size := by have := b4.lt; omega
          have D5 := D4.keeps ka5
          have b5 := b4.keeps ka5
          go_wp2_with fail
          refine (textD tx hwx (by omega) _ (W4.alloc (.cells #[.string s4] 9)) (HBX.out (W4.alloc (.cells #[.string s4] 9)) D5)).mono ?_; rintro e W7 ⟨s7, rfl, hs7, k7⟩
          have D7 := D5.keeps k7
          have b7 := b5.keeps k7
          have sd5_7 := sd5.keeps k7
          have ka8 := (Keeps.refl W7).alloc (.cells #[.string s7] 9)
          have sd8 := lit1D W7 s7
          have gs8 : w.heap.size ≤ W7.heap.size := by have := b7.lt; omega
          have D8 := D7.keeps ka8
          have b8 := b7.keeps ka8
          have sd5_7_8 := sd5_7.keeps ka8
          have f0 := b8.cell 0 (by simp)
          have f1 := b8.cell 1 (by simp)
          have g0 := b8.froz 0
          have g1 := b8.froz 1
          simp only [List.getElem_cons_succ, List.getElem_cons_zero] at f0 f1
          have hX := (SideD.mono (m := 4) ⟨_, _, _, _, rfl, sd5_7_8, by simp, fun x hx => by rw [List.mem_singleton] at hx; subst hx; assumption⟩ gs5)
          have hY := (SideD.mono (m := 4) ⟨_, _, _, _, rfl, sd8, by simp, fun x hx => by rw [List.mem_singleton] at hx; subst hx; assumption⟩ gs8)
          have e1 := b8.set 0 (.slice (some ⟨W4.heap.size, 0, none⟩) 1 1)
          have e2 := e1.set 1 (.slice (some ⟨W7.heap.size, 0, none⟩) 1 1)
          have y0 := e2.cell 0 (by simp)
          have y1 := e2.cell 1 (by simp)
          simp only [List.set_cons_zero, List.set_cons_succ, List.getElem_cons_succ, List.getElem_cons_zero] at y0 y1
          have hDD := ((HD5.out.trans D8).box (i := 0) (x := (.slice (some ⟨W4.heap.size, 0, none⟩) 1 1)) b8 (by omega) (Nat.le_refl _)).box (i := 1) (x := (.slice (some ⟨W7.heap.size, 0, none⟩) 1 1)) e1 (by omega) (Nat.le_refl _)
          have HO := hid ((⟨⟨#[71, 76]⟩, (.slice (some ⟨W4.heap.size, 0, none⟩) 1 1), (.slice (some ⟨W7.heap.size, 0, none⟩) 1 1), rfl, (by decide), (hX.boxed b8 (by decide)).boxed e1 (by decide), (hY.boxed b8 (by decide)).boxed e1 (by decide), hDD⟩ : KnD B w (.returned (.tuple #[.string ⟨#[71, 76]⟩, .agg #[(.slice (some ⟨W4.heap.size, 0, none⟩) 1 1), (.slice (some ⟨W7.heap.size, 0, none⟩) 1 1)]])) _))
          clear hX hY e1 e2 hDD
          go_wp2_with fail
          refine bodyPost_ret (v := .tuple #[.string ⟨#[71, 76]⟩, .agg #[(.slice (some ⟨W4.heap.size, 0, none⟩) 1 1), (.slice (some ⟨W7.heap.size, 0, none⟩) 1 1)]]) (by simp [results, Tryz.results92, go_sem, y0, y1]) rfl HO.out
        · have h3' : ((r5 : Nat) : Int) ≠ 3 := by omega
          by_cases h4 : r5 = 4
          · subst h4
            have DD : Dr B w5 w5 := Dr.of HSRC.out (Keeps.refl w5)
            have bd := HB5.out
            go_wp2_with fail
            refine (textD tx hwx (by omega) _ w5 (HBX.out w5 DD)).mono ?_; rintro e W1 ⟨s1, rfl, hs1, k1⟩
            have D1 := DD.keeps k1
            have b1 := bd.keeps k1
            have ka2 := (Keeps.refl W1).alloc (.cells #[.string s1] 9)
            have sd2 := lit1D W1 s1
            have gs2 : w.heap.size ≤ W1.heap.size := by have := b1.lt; omega
            have D2 := D1.keeps ka2
            have b2 := b1.keeps ka2
            go_wp2_with fail
            refine (preD 1 (by omega) ta hwa (by omega) _ (W1.alloc (.cells #[.string s1] 9)) (HA.out (W1.alloc (.cells #[.string s1] 9)) D2)).mono ?_; rintro e W4 ⟨p4, n4, q4, z4, rfl, ho4, hw4, hl4, k4⟩
            have D4 := D2.keeps k4
            have b4 := b2.keeps k4
            have sd2_4 := sd2.keeps k4
            go_wp2_with fail
            refine (textD z4 hw4 (by omega) _ W4 (ho4.nds (by omega))).mono ?_; rintro e W5 ⟨s5, rfl, hs5, k5⟩
            have D5 := D4.keeps k5
            have b5 := b4.keeps k5
            have sd2_4_5 := sd2_4.keeps k5
            have ka6 := (Keeps.refl W5).alloc (.cells #[.string s5] 9)
            have sd6 := lit1D W5 s5
            have gs6 : w.heap.size ≤ W5.heap.size := by have := b5.lt; omega
            have D6 := D5.keeps ka6
            have b6 := b5.keeps ka6
            have sd2_4_5_6 := sd2_4_5.keeps ka6
            have f0 := b6.cell 0 (by simp)
            have f1 := b6.cell 1 (by simp)
            have g0 := b6.froz 0
            have g1 := b6.froz 1
            simp only [List.getElem_cons_succ, List.getElem_cons_zero] at f0 f1
            have hX := (SideD.mono (m := 4) ⟨_, _, _, _, rfl, sd2_4_5_6, by simp, fun x hx => by rw [List.mem_singleton] at hx; subst hx; assumption⟩ gs2)
            have hY := (SideD.mono (m := 4) ⟨_, _, _, _, rfl, sd6, by simp, fun x hx => by rw [List.mem_singleton] at hx; subst hx; assumption⟩ gs6)
            have e1 := b6.set 0 (.slice (some ⟨W1.heap.size, 0, none⟩) 1 1)
            have e2 := e1.set 1 (.slice (some ⟨W5.heap.size, 0, none⟩) 1 1)
            have y0 := e2.cell 0 (by simp)
            have y1 := e2.cell 1 (by simp)
            simp only [List.set_cons_zero, List.set_cons_succ, List.getElem_cons_succ, List.getElem_cons_zero] at y0 y1
            have hDD := ((HD5.out.trans D6).box (i := 0) (x := (.slice (some ⟨W1.heap.size, 0, none⟩) 1 1)) b6 (by omega) (Nat.le_refl _)).box (i := 1) (x := (.slice (some ⟨W5.heap.size, 0, none⟩) 1 1)) e1 (by omega) (Nat.le_refl _)
            have HO := hid ((⟨⟨#[68]⟩, (.slice (some ⟨W1.heap.size, 0, none⟩) 1 1), (.slice (some ⟨W5.heap.size, 0, none⟩) 1 1), rfl, (by decide), (hX.boxed b6 (by decide)).boxed e1 (by decide), (hY.boxed b6 (by decide)).boxed e1 (by decide), hDD⟩ : KnD B w (.returned (.tuple #[.string ⟨#[68]⟩, .agg #[(.slice (some ⟨W1.heap.size, 0, none⟩) 1 1), (.slice (some ⟨W5.heap.size, 0, none⟩) 1 1)]])) _))
            clear hX hY e1 e2 hDD
            go_wp2_with fail
            refine bodyPost_ret (v := .tuple #[.string ⟨#[68]⟩, .agg #[(.slice (some ⟨W1.heap.size, 0, none⟩) 1 1), (.slice (some ⟨W5.heap.size, 0, none⟩) 1 1)]]) (by simp [results, Tryz.results92, go_sem, y0, y1]) rfl HO.out
          · have h4' : ((r5 : Nat) : Int) ≠ 4 := by omega
            by_cases h5 : r5 = 5
            · subst h5
              go_wp2_with fail
              refine wp_region_slots (L := 21) (nt := 125) (ins := [0, 3, 4, 5, 6, 7]) (by kernel_rfl) (by kernel_rfl) (fun s v wz => (kdKn w.heap.size s).holds B w.heap.size v wz) (Dr B) (fun _ _ _ _ h => Kd.dr hB h) (JD B w.heap.size w.heap.size w) (fun _ _ k h => h.dr k) ?_ (by kernel_rfl) rfl HJ.out (fun s hs => ?_)
              rotate_left
              · rcases HINQ.out s hs with rfl | rfl | rfl | rfl | rfl | rfl
                · exact (rfl : _ = _)
                · exact (rfl : _ = _)
                · exact HI4.out
                · exact HI5.out
                · exact HI6.out
                · exact HI7.out
              refine ⟨?_, ?_, ?_, ?_, ?_, ?_, ?_, ?_, ?_, ?_, ?_, ?_, ?_, ?_, ?_, ?_, ?_, ?_, ?_, ?_, ?_, ?_, True.intro⟩
              · rw [if_neg (by decide)]
                exact stNames [⟨#[75]⟩, ⟨#[84]⟩, ⟨#[83, 52]⟩] (by decide) (fun a w => by kernel_rfl) (fun d hd => by cases hd; rfl)
              · rw [if_neg (by decide)]
                exact stMove 0 (.inl rfl) (by kernel_rfl) (fun d hd => by cases hd; rfl)
              · rw [if_neg (by decide)]
                exact stNext 3 (by decide) (by decide) 92 _ rfl entNext (by kernel_rfl) rfl (fun d hd => by cases hd; rfl)
              · rw [if_neg (by decide)]
                exact stIndex [⟨#[75]⟩, ⟨#[84]⟩, ⟨#[83, 52]⟩] (by decide) (by decide) 3 (by decide) 91 93 rfl (by kernel_rfl) (by kernel_rfl) rfl rfl (fun d hd => by cases hd; rfl)
              · rw [if_neg (by decide)]
                exact stLoad 94 rfl (by kernel_rfl) rfl (fun d hd => by cases hd; rfl)
              · rw [if_neg (by decide)]
                exact stMove 4 (.inl rfl) (by kernel_rfl) (fun d hd => by cases hd; rfl)
              · rw [if_neg (by decide)]
                exact stMove 5 (.inl rfl) (by kernel_rfl) (fun d hd => by cases hd; rfl)
              · rw [if_neg (by decide)]
                exact stPair 1 3 3 (by decide) (by decide) (by decide) 96 97 _ rfl entPair (by kernel_rfl) (by kernel_rfl) rfl rfl (fun d hd => by cases hd; rfl)
              · rw [if_neg (by decide)]
                exact stPre 1 7 (by decide) (by decide) 98 _ rfl entPre (by kernel_rfl) rfl (fun d hd => by cases hd; rfl)
              · rw [if_neg (by decide)]
                exact stText 8 (by decide) 99 _ rfl entText (by kernel_rfl) rfl (fun d hd => by cases hd; rfl)
              · rw [if_neg (by decide)]
                exact stOne 100 rfl (by kernel_rfl) rfl (fun d hd => by cases hd; exact .inr rfl)
              · rw [if_neg (by decide)]
                exact stMove 4 (.inl rfl) (by kernel_rfl) (fun d hd => by cases hd; rfl)
              · rw [if_neg (by decide)]
                exact stPre 1 3 (by decide) (by decide) 102 _ rfl entPre (by kernel_rfl) rfl (fun d hd => by cases hd; rfl)
              · rw [if_neg (by decide)]
                exact stText 4 (by decide) 103 _ rfl entText (by kernel_rfl) rfl (fun d hd => by cases hd; rfl)
              · rw [if_neg (by decide)]
                exact stOne 104 rfl (by kernel_rfl) rfl (fun d hd => by cases hd; exact .inl rfl)
              · rw [if_neg (by decide)]
                exact stMove 5 (.inl rfl) (by kernel_rfl) (fun d hd => by cases hd; rfl)
              · rw [if_neg (by decide)]
                exact stPre 1 3 (by decide) (by decide) 106 _ rfl entPre (by kernel_rfl) rfl (fun d hd => by cases hd; rfl)
              · rw [if_neg (by decide)]
                exact stText 4 (by decide) 107 _ rfl entText (by kernel_rfl) rfl (fun d hd => by cases hd; rfl)
              · rw [if_neg (by decide)]
                exact stInsert 105 108 _ rfl entInsert (by kernel_rfl) (by kernel_rfl) rfl rfl (fun d hd => by cases hd; rfl)
              · rw [if_neg (by decide)]
                exact stBuild 101 109 rfl (by kernel_rfl) (by kernel_rfl) rfl rfl (fun d hd => by cases hd; rfl)
              · rw [if_neg (by decide)]
                exact stMove 95 (.inr rfl) (by kernel_rfl) (fun d hd => by cases hd; rfl)
              · rw [if_pos rfl]
                refine stStore 3 110 rfl rfl 19 (by kernel_rfl) (by decide) (by kernel_rfl) rfl rfl (Nat.le_refl _) ?_
                intro a w' x y D h
                obtain ⟨s, e2, hs2⟩ := h.dsts 20 2 (by decide) (by kernel_rfl) rfl
                have e3 := h.ptr 3 (by kernel_rfl) rfl
                obtain ⟨p, n, c, rfl⟩ := h.x1
                obtain ⟨q, m, d, rfl⟩ := h.y1
                have y0 := h.c0
                have y1 := h.c1
                have HK := hid (show KnD B w (.returned (.tuple #[.string s, .agg #[.slice p n c, .slice q m d]])) w' from ⟨s, _, _, rfl, hs2, h.sx, h.sy, D⟩)
                have r2 : a.tmps.getD 2 undef = .string s := e2
                have r3 : a.tmps.getD 3 undef = .pointer (some ⟨w.heap.size, 0, none⟩) := e3
                rw [Array.getD_eq_getD_getElem?] at r2 r3
                have hdf := h.df
                simp only [Exit.then]
                go_wp2_with fail
                exact bodyPost_ret (v := .tuple #[.string s, .agg #[.slice p n c, .slice q m d]]) (by simp [results, Tryz.results92, go_sem, y0, y1, r2, r3]) hdf HK.out
            · have h5' : ((r5 : Nat) : Int) ≠ 5 := by omega
              go_wp2_with fail
              refine wp_region_slots (L := 15) (nt := 125) (ins := [0, 3, 4, 5, 6, 7]) (by kernel_rfl) (by kernel_rfl) (fun s v wz => (kdKn w.heap.size s).holds B w.heap.size v wz) (Dr B) (fun _ _ _ _ h => Kd.dr hB h) (JD B w.heap.size w.heap.size w) (fun _ _ k h => h.dr k) ?_ (by kernel_rfl) rfl HJ.out (fun s hs => ?_)
              rotate_left
              · rcases HINQ.out s hs with rfl | rfl | rfl | rfl | rfl | rfl
                · exact (rfl : _ = _)
                · exact (rfl : _ = _)
                · exact HI4.out
                · exact HI5.out
                · exact HI6.out
                · exact HI7.out
              refine ⟨?_, ?_, ?_, ?_, ?_, ?_, ?_, ?_, ?_, ?_, ?_, ?_, ?_, ?_, ?_, ?_, True.intro⟩
              · rw [if_neg (by decide)]
                exact stNames [⟨#[75]⟩, ⟨#[84]⟩, ⟨#[71, 76]⟩] (by decide) (fun a w => by kernel_rfl) (fun d hd => by cases hd; rfl)
              · rw [if_neg (by decide)]
                exact stMove 0 (.inl rfl) (by kernel_rfl) (fun d hd => by cases hd; rfl)
              · rw [if_neg (by decide)]
                exact stNext 3 (by decide) (by decide) 112 _ rfl entNext (by kernel_rfl) rfl (fun d hd => by cases hd; rfl)
              · rw [if_neg (by decide)]
                exact stIndex [⟨#[75]⟩, ⟨#[84]⟩, ⟨#[71, 76]⟩] (by decide) (by decide) 3 (by decide) 111 113 rfl (by kernel_rfl) (by kernel_rfl) rfl rfl (fun d hd => by cases hd; rfl)
              · rw [if_neg (by decide)]
                exact stLoad 114 rfl (by kernel_rfl) rfl (fun d hd => by cases hd; rfl)
              · rw [if_neg (by decide)]
                exact stEmpty (fun a w => by kernel_rfl) (fun d hd => by cases hd; rfl)
              · rw [if_neg (by decide)]
                exact stMove 4 (.inl rfl) (by kernel_rfl) (fun d hd => by cases hd; rfl)
              · rw [if_neg (by decide)]
                exact stMove 5 (.inl rfl) (by kernel_rfl) (fun d hd => by cases hd; rfl)
              · rw [if_neg (by decide)]
                exact stPair 0 3 3 (by decide) (by decide) (by decide) 117 118 _ rfl entPair (by kernel_rfl) (by kernel_rfl) rfl rfl (fun d hd => by cases hd; rfl)
              · rw [if_neg (by decide)]
                exact stMove 4 (.inl rfl) (by kernel_rfl) (fun d hd => by cases hd; rfl)
              · rw [if_neg (by decide)]
                exact stPair 2 7 3 (by decide) (by decide) (by decide) 119 120 _ rfl entPair (by kernel_rfl) (by kernel_rfl) rfl rfl (fun d hd => by cases hd; rfl)
              · rw [if_neg (by decide)]
                exact stText 11 (by decide) 121 _ rfl entText (by kernel_rfl) rfl (fun d hd => by cases hd; rfl)
              · rw [if_neg (by decide)]
                exact stOne 122 rfl (by kernel_rfl) rfl (fun d hd => by cases hd; exact .inr rfl)
              · rw [if_neg (by decide)]
                exact stBuild 116 123 rfl (by kernel_rfl) (by kernel_rfl) rfl rfl (fun d hd => by cases hd; rfl)
              · rw [if_neg (by decide)]
                exact stMove 115 (.inr rfl) (by kernel_rfl) (fun d hd => by cases hd; rfl)
              · rw [if_pos rfl]
                refine stStore 3 124 rfl rfl 13 (by kernel_rfl) (by decide) (by kernel_rfl) rfl rfl (Nat.le_refl _) ?_
                intro a w' x y D h
                obtain ⟨s, e2, hs2⟩ := h.dsts 14 2 (by decide) (by kernel_rfl) rfl
                have e3 := h.ptr 3 (by kernel_rfl) rfl
                obtain ⟨p, n, c, rfl⟩ := h.x1
                obtain ⟨q, m, d, rfl⟩ := h.y1
                have y0 := h.c0
                have y1 := h.c1
                have HK := hid (show KnD B w (.returned (.tuple #[.string s, .agg #[.slice p n c, .slice q m d]])) w' from ⟨s, _, _, rfl, hs2, h.sx, h.sy, D⟩)
                have r2 : a.tmps.getD 2 undef = .string s := e2
                have r3 : a.tmps.getD 3 undef = .pointer (some ⟨w.heap.size, 0, none⟩) := e3
                rw [Array.getD_eq_getD_getElem?] at r2 r3
                have hdf := h.df
                simp only [Exit.then]
                go_wp2_with fail
                exact bodyPost_ret (v := .tuple #[.string s, .agg #[.slice p n c, .slice q m d]]) (by simp [results, Tryz.results92, go_sem, y0, y1, r2, r3]) hdf HK.out
end Go.Proofs.YtgnehffglhbggaaGreat
