/- drop, and both put and drop as formulas. -/
import Derived.Test.YtodeecmhcfbheaaGreatGVE
import Derived.Test.YtodeecmhcfbheaaGreatGVI
import Derived.Deep.RegionHeld3
namespace Go.Proofs.YtodeecmhcfbheaaGreat
open Go.RowKit
theorem enters_drop_1 : Enters 286 := fun _ _ => by kernel_rfl
set_option maxRecDepth 20000 in
set_option maxHeartbeats 1000000 in
theorem drop_any (ss : List ByteArray) (t : ByteArray) (v : Value) (w : World) (hv : Strs w v ss) (h0 : 0 < ss.length) (hl : ss.length ≤ 1000000000) :
    Calls Tryz.prog 280 #[v, .string t] w fun e w' => ∃ v', e = .returned v' ∧ OwnS w' w.heap.size v' (ss.filter fun s => !(s.toList == t.toList)) ∧ Keeps w w' := by
  have kA := (Keeps.refl w).alloc (.cells #[.string t] 9)
  have hb : (w.alloc (.cells #[.string t] 9)).cell? ⟨w.heap.size, 0, none⟩ = some (.string t) := by simp
  have hva := hv.keeps kA
  obtain ⟨p, cap, rfl, hle, hmx, hat, _⟩ := hva.at
  obtain ⟨b, off, rfl, _⟩ := hat 0 (by simpa [strCells] using h0)
  have hc : ∀ j, j < ss.length → (w.alloc (.cells #[.string t] 9)).cell? ⟨b, off + j, none⟩ = some (.string (ss.getD j ByteArray.empty)) := by
    intro j hj
    obtain ⟨b', off', hp, hc⟩ := hat j (by simpa [strCells] using hj)
    cases hp
    rw [hc]
    simp [strCells, List.getD_eq_getElem?_getD, hj]
  have hC := Tryz.slices_Clone_string b off ss.length cap ss (w.alloc (.cells #[.string t] 9)) (Nat.le_refl _) (by omega) hc
  rw [List.take_length] at hC
  have HC := hid hC; clear hC hc hat
  have HB := hid hb; clear hb
  clear hva
  go_enter Tryz.func280, Tryz.ntmps280
  go_wp2_with fail
  refine HC.out.mono ?_; rintro e w1 ⟨v1, rfl, hv1, hn1, k1⟩
  have hown : OwnS w1 (w.alloc (.cells #[.string t] 9)).heap.size v1 ss := hv1
  obtain ⟨g, c1, rfl⟩ : ∃ g c, v1 = .slice (some ⟨g, 0, none⟩) ss.length c := by
    rcases hown.2 with ⟨e, _⟩ | ⟨g, c, _, e, _⟩
    · exact absurd e hn1
    · exact ⟨g, c, e⟩
  have HD := hid (deleteFuncS (fun s => s.toList == t.toList) 286 #[.pointer (some ⟨w.heap.size, 0, none⟩)] ss g c1 (w.alloc (.cells #[.string t] 9)) w1 hown k1 (by omega) enters_drop_1 (fun x w2 k2 => drop_1_any x t _ w2 (Keeps.cell k2 HB.out)))
  clear hown hv1 hn1
  go_wp2_with fail
  refine HD.out.mono ?_; rintro e w2 ⟨v2, rfl, hv2, k2⟩
  go_wp2_with fail
  go_ret
  exact ⟨_, rfl, hv2.mono (by simp), kA.trans k2⟩
/-- a left side of its own -/
def OLeft (w : World) (B : Nat) (v : Value) (G : List Fm) : Prop := ∃ ss, OwnS w B v ss ∧ Txts ss G ∧ G.length ≤ 2147483648
theorem OLeft.left {w : World} {B : Nat} {v : Value} {G : List Fm} (h : OLeft w B v G) : Left w v G := by
  obtain ⟨ss, h1, h2, h3⟩ := h
  exact h1.left h2 h3
theorem OLeft.mono {w : World} {B B' : Nat} {v : Value} {G : List Fm} (h : OLeft w B v G) (k : B' ≤ B) : OLeft w B' v G := by
  obtain ⟨ss, h1, h2, h3⟩ := h
  exact ⟨ss, h1.mono k, h2, h3⟩
theorem OLeft.setBelow {w : World} {B : Nat} {v : Value} {G : List Fm} (h : OLeft w B v G) {g : Nat} (hg : g < B) (o : Nat) (u : Value) : OLeft (w.setCell ⟨g, o, none⟩ u) B v G := by
  obtain ⟨ss, h1, h2, h3⟩ := h
  refine ⟨ss, World.ownsRow.kept h1 (grown_set g o u) ?_, h2, h3⟩
  cases hb : v.ownBlock with
  | none => exact .inl rfl
  | some k => exact .inr (fun e => by cases e; have := (OwnS.len h1 g hb).1; omega)
theorem put_fm (G H : List Fm) (v u : Value) (w : World) (hv : Left w v G) (hu : Left w u H) (hG : OkL G) (hH : OkL H) (hl : wts G + wts H ≤ 1000000000) :
    Calls Tryz.prog 90 #[v, u] w fun e w' => ∃ v' R, e = .returned v' ∧ OLeft w' w.heap.size v' R ∧ (∀ a, a ∈ R ↔ a ∈ G ∨ a ∈ H) ∧ wts R ≤ wts G + wts H ∧ Keeps w w' := by
  obtain ⟨ss, h1, h2⟩ := hv
  obtain ⟨tt, h3, h4⟩ := hu
  have hl1 := len_le_wts G
  have hl2 := len_le_wts H
  obtain ⟨R, hR, hm, hw, hln⟩ := put_txts h2 h4 (fun a ha => (hG a ha).1) (fun a ha => (hH a ha).1)
  refine (put_any ss tt v u w h1 h3 (by rw [h2.length, h4.length]; omega)).mono ?_
  rintro e w' ⟨v', rfl, ho, k⟩
  exact ⟨v', R, rfl, ⟨_, ho, hR, by omega⟩, hm, hw, k⟩
theorem drop_fm (G : List Fm) (t : Fm) (x : ByteArray) (hx : bts x = t.body) (hm : t ∈ G) (v : Value) (w : World) (hv : Left w v G) (hG : OkL G) (hl : wts G ≤ 1000000000) :
    Calls Tryz.prog 280 #[v, .string x] w fun e w' => ∃ v', e = .returned v' ∧ OLeft w' w.heap.size v' (G.filter fun a => !decide (a = t)) ∧ Keeps w w' := by
  obtain ⟨ss, h1, h2⟩ := hv
  have hl1 := len_le_wts G
  have hp : 0 < G.length := List.length_pos_of_mem hm
  refine (drop_any ss x v w h1 (by rw [h2.length]; exact hp) (by rw [h2.length]; omega)).mono ?_
  rintro e w' ⟨v', rfl, ho, k⟩
  have := drop_txts hx (hG t hm).1 h2 (fun a ha => (hG a ha).1)
  exact ⟨v', rfl, ⟨_, ho, this, by have := List.length_filter_le (fun a => !decide (a = t)) G; omega⟩, k⟩
end Go.Proofs.YtodeecmhcfbheaaGreat
/- goals: proving, with, instead. -/
namespace Go.Proofs.YtodeecmhcfbheaaGreat
open Go.RowKit
set_option maxRecDepth 20000 in
set_option maxHeartbeats 1000000 in
theorem proving_any (p : Option Addr) (n c : Nat) (s t : ByteArray) (w : World) :
    Calls Tryz.prog 253 #[.agg #[.slice p n c, .string s], .string t] w fun e w' => e = .returned (.agg #[.slice p n c, .string t]) ∧ Keeps w w' := by
  have kA := (((Keeps.refl w).alloc (.cells #[.slice p n c, .string s] 183)).alloc (.cells #[.slice none 0 0, .string ⟨#[]⟩] 183))
  have pa : ((w.alloc (.cells #[.slice p n c, .string s] 183)).alloc (.cells #[.slice none 0 0, .string ⟨#[]⟩] 183)).cell? ⟨w.heap.size, 0, none⟩ = some (.slice p n c) := by rw [World.cell?_alloc_lt (h := by simp)]; simp
  go_enter Tryz.func253, Tryz.ntmps253
  go_wp2
  refine bodyPost_ret (v := .agg #[.slice p n c, .string t]) (by simp [results, Tryz.results253, go_sem]) rfl ?_
  exact ⟨rfl, (((Keeps.refl w).alloc _).alloc _)⟩
set_option maxRecDepth 20000 in
set_option maxHeartbeats 1000000 in
theorem with_any (G H : List Fm) (p : Option Addr) (n c : Nat) (s : ByteArray) (u : Value) (w : World) (hv : Left w (.slice p n c) G) (hu : Left w u H) (hG : OkL G) (hH : OkL H) (hl : wts G + wts H ≤ 1000000000) :
    Calls Tryz.prog 254 #[.agg #[.slice p n c, .string s], u] w fun e w' => ∃ p' n' c' R, e = .returned (.agg #[.slice p' n' c', .string s]) ∧ Left w' (.slice p' n' c') R ∧ (∀ a, a ∈ R ↔ a ∈ G ∨ a ∈ H) ∧ wts R ≤ wts G + wts H ∧ Keeps w w' := by
  obtain ⟨p2, n2, c2, rfl⟩ := hu.shape
  have kA := (((Keeps.refl w).alloc (.cells #[.slice p n c, .string s] 183)).alloc (.cells #[.slice none 0 0, .string ⟨#[]⟩] 183)).drew
  have pa : ((w.alloc (.cells #[.slice p n c, .string s] 183)).alloc (.cells #[.slice none 0 0, .string ⟨#[]⟩] 183)).drew.cell? ⟨w.heap.size, 0, none⟩ = some (.slice p n c) := by show (World.alloc _ _).cell? _ = _; rw [World.cell?_alloc_lt (h := by simp)]; simp
  have pb : ((w.alloc (.cells #[.slice p n c, .string s] 183)).alloc (.cells #[.slice none 0 0, .string ⟨#[]⟩] 183)).drew.cell? ⟨w.heap.size, 1, none⟩ = some (.string s) := by show (World.alloc _ _).cell? _ = _; rw [World.cell?_alloc_lt (h := by simp)]; simp
  have HP := hid (put_fm G H _ _ _ (hv.keeps kA) (hu.keeps kA) hG hH hl)
  clear hv hu hG hH hl
  go_enter Tryz.func254, Tryz.ntmps254
  go_wp2_with fail
  go_region_held3 (fun w' => w'.cell? ⟨w.heap.size, 0, none⟩ = some (.slice p n c) ∧ w'.cell? ⟨w.heap.size, 1, none⟩ = some (.string s)) (first | exact ⟨pa, pb⟩ | exact ⟨qa, qb⟩ | (constructor <;> (rw [World.cell?_setCell_far _ _ _ _ (by simp), World.cell?_setCell_far _ _ _ _ (by simp)]; first | exact qa | exact qb))) (first | (go_at_call 90; refine HP.out.mono ?_; rintro e w2 ⟨v2, R, rfl, hR, hm, hwt, k2⟩; have qa := k2.cell pa; have qb := k2.cell pb; obtain ⟨p4, n4, q4, rfl⟩ := hR.left.shape; obtain ⟨hc3, hf3⟩ := k2.both))
  go_wp2
  refine bodyPost_ret (v := .agg #[.slice p4 n4 q4, .string s]) (by simp [results, Tryz.results254, go_sem, hc3]) rfl ?_
  exact ⟨p4, n4, q4, R, rfl, ((hR.setBelow (by simp) _ _).setBelow (by simp) _ _).left, hm, hwt, ((kA.trans k2).setCell (by simp) _).setCell (by simp) _⟩
set_option maxRecDepth 20000 in
set_option maxHeartbeats 1000000 in
theorem instead_any (G T : List Fm) (t : Fm) (x : ByteArray) (hx : bts x = t.body) (hm : t ∈ G) (p : Option Addr) (n c : Nat) (s : ByteArray) (u : Value) (w : World) (hv : Left w (.slice p n c) G) (hu : Left w u T) (hG : OkL G) (hT : OkL T) (hl : wts G + wts T ≤ 1000000000) :
    Calls Tryz.prog 269 #[.agg #[.slice p n c, .string s], .string x, u] w fun e w' => ∃ p' n' c' R, e = .returned (.agg #[.slice p' n' c', .string s]) ∧ Left w' (.slice p' n' c') R ∧ (∀ a, a ∈ R ↔ a ∈ T ∨ a ∈ G.filter (fun a => !decide (a = t))) ∧ wts R + wt t ≤ wts G + wts T ∧ Keeps w w' := by
  obtain ⟨p2, n2, c2, rfl⟩ := hu.shape
  have kA := (((Keeps.refl w).alloc (.cells #[.slice p n c, .string s] 183)).alloc (.cells #[.slice none 0 0, .string ⟨#[]⟩] 183)).drew
  have pa : ((w.alloc (.cells #[.slice p n c, .string s] 183)).alloc (.cells #[.slice none 0 0, .string ⟨#[]⟩] 183)).drew.cell? ⟨w.heap.size, 0, none⟩ = some (.slice p n c) := by show (World.alloc _ _).cell? _ = _; rw [World.cell?_alloc_lt (h := by simp)]; simp
  have pb : ((w.alloc (.cells #[.slice p n c, .string s] 183)).alloc (.cells #[.slice none 0 0, .string ⟨#[]⟩] 183)).drew.cell? ⟨w.heap.size, 1, none⟩ = some (.string s) := by show (World.alloc _ _).cell? _ = _; rw [World.cell?_alloc_lt (h := by simp)]; simp
  have hwt := wts_without hm
  have HD := hid (drop_fm G t x hx hm _ _ (hv.keeps kA) hG (by omega))
  have HP := hid (fun v2 w2 (k : Keeps w w2) (h : Left w2 v2 (G.filter fun a => !decide (a = t))) => put_fm _ T v2 _ w2 h (hu.keeps k) (fun a ha => hG a (mem_without.1 ha).1) hT (by omega))
  have HW := hid hwt
  clear hv hu hG hT hl hwt hx hm
  go_enter Tryz.func269, Tryz.ntmps269
  go_wp2_with fail
  go_region_held3 (fun w' => w'.cell? ⟨w.heap.size, 0, none⟩ = some (.slice p n c) ∧ w'.cell? ⟨w.heap.size, 1, none⟩ = some (.string s)) (first | exact ⟨pa, pb⟩ | exact ⟨qa, qb⟩ | exact ⟨ra, rb⟩ | (constructor <;> (rw [World.cell?_setCell_far _ _ _ _ (by simp), World.cell?_setCell_far _ _ _ _ (by simp)]; first | exact ra | exact rb))) (first
    | (go_at_call 280; refine HD.out.mono ?_; rintro e w2 ⟨v2, rfl, hv2, k2⟩; have qa := k2.cell pa; have qb := k2.cell pb; obtain ⟨p4, n4, q4, rfl⟩ := hv2.left.shape)
    | (go_at_call 90; refine (HP.out _ w2 (kA.trans k2) hv2.left).mono ?_; rintro e w3 ⟨v3, R, rfl, hR, hmem, hwR, k3⟩; have ra := k3.cell qa; have rb := k3.cell qb; obtain ⟨p5, n5, q5, rfl⟩ := hR.left.shape; obtain ⟨hc3, hf3⟩ := (k2.trans k3).both))
  have hs2 := k2.size
  go_wp2
  refine bodyPost_ret (v := .agg #[.slice p5 n5 q5, .string s]) (by simp [results, Tryz.results269, go_sem, hc3]) rfl ?_
  have hlt : w.heap.size + 1 < w2.heap.size := by have := hs2; simp at this; omega
  exact ⟨p5, n5, q5, R, rfl, ((hR.setBelow hlt _ _).setBelow hlt _ _).left, fun a => (hmem a).trans or_comm, by have := HW.out; omega, ((kA.trans (k2.trans k3)).setCell (by simp) _).setCell (by simp) _⟩
end Go.Proofs.YtodeecmhcfbheaaGreat
