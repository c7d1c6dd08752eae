/- The decider: what it knows is right; all. -/
import Derived.Test.YtajjlnonmaghlaaGreatGVP
import Derived.Test.YtajjlnonmaghlaaGreatGV4
namespace Go.Proofs.YtajjlnonmaghlaaGreat
open Go.RowKit
/-- what may be known -/
def Known (s : ByteArray) (b : Bool) : Prop := ∃ G c, OkL G ∧ OkF c ∧ bts s = keyF G c ∧ b = sqB G c
theorem Known.is {s : ByteArray} {b : Bool} {G : List Fm} {c : Fm} (h : Known s b) (hG : OkL G) (hc : OkF c) (hs : bts s = keyF G c) : b = sqB G c := by
  obtain ⟨H, d, hH, hd, h1, rfl⟩ := h
  obtain ⟨rfl, rfl⟩ := keyF_inj hH hG hd hc (h1.symm.trans hs)
  rfl
/-- a decider -/
def Dec (w : World) (d m : Nat) : Prop := w.cell? ⟨d, 0, none⟩ = some (.map (some m)) ∧ Ans w m Known
theorem Dec.keeps {w w' : World} {d m : Nat} (h : Dec w d m) (k : Keeps w w') : Dec w' d m := ⟨k.cell h.1, h.2.keeps k⟩
theorem Dec.turns {w w' : World} {d m : Nat} (h : Dec w d m) (k : Turns m w w') (ha : Ans w' m Known) : Dec w' d m := ⟨k.2 _ _ h.1, ha⟩
/-- how a decider answers -/
def Says (w : World) (d m : Nat) (b : Bool) (e : Ending) (w' : World) : Prop := e = .returned (.bool b) ∧ Turns m w w' ∧ Dec w' d m
def ProvesOk (n : Nat) : Prop := ∀ (G : List Fm) (c : Fm), OkL G → OkF c → wts G + wt c < n → wts G + wt c ≤ 50000000 → ∀ (p : Option Addr) (k q : Nat) (s : ByteArray) (d m : Nat) (w : World),
  Left w (.slice p k q) G → bts s = c.body → Dec w d m → Calls Tryz.prog 125 #[.pointer (some ⟨d, 0, none⟩), .agg #[.slice p k q, .string s]] w (Says w d m (sqB G c))
theorem enters_all_1 : Enters 183 := fun _ _ => by kernel_rfl
set_option maxRecDepth 20000 in
theorem all_1_any (n : Nat) (ih : ProvesOk n) (G : List Fm) (c : Fm) (hG : OkL G) (hc : OkF c) (hn : wts G + wt c < n) (hl : wts G + wt c ≤ 50000000) (p : Option Addr) (k q : Nat) (s : ByteArray) (d m b : Nat) (w : World)
    (hv : Left w (.slice p k q) G) (hs : bts s = c.body) (hd : Dec w d m) (hb : w.cell? ⟨b, 0, none⟩ = some (.pointer (some ⟨d, 0, none⟩))) :
    Calls Tryz.prog 183 #[.agg #[.slice p k q, .string s], .pointer (some ⟨b, 0, none⟩)] w (Says w d m (!sqB G c)) := by
  have kA := (Keeps.refl w).alloc (.cells #[.slice p k q, .string s] 118)
  have hb' := kA.cell hb
  have H := hid (ih G c hG hc hn hl p k q s d m _ (hv.keeps kA) hs (hd.keeps kA))
  clear hv hd
  go_enter Tryz.func183, Tryz.ntmps183
  go_wp2_with fail
  refine H.out.mono ?_; rintro e w2 ⟨rfl, ht, hd2⟩
  go_wp2_with fail
  go_ret
  exact ⟨rfl, (Turns.ofKeeps kA).trans ht, hd2⟩
set_option maxRecDepth 20000 in
theorem all_any (n : Nat) (ih : ProvesOk n) (gs : List (List Fm × Fm)) (hgs : ∀ g ∈ gs, OkL g.1 ∧ OkF g.2 ∧ wts g.1 + wt g.2 < n ∧ wts g.1 + wt g.2 ≤ 50000000) (v : Value) (d m : Nat) (w : World) (hv : GoalL w v gs) (hd : Dec w d m) :
    Calls Tryz.prog 167 #[.pointer (some ⟨d, 0, none⟩), v] w (Says w d m (!(gs.any fun g => !sqB g.1 g.2))) := by
  obtain ⟨pv, cv, rfl, _⟩ := hv.shape
  have kA := (Keeps.refl w).alloc (.cells #[.pointer (some ⟨d, 0, none⟩)] 89)
  have hb : (w.alloc (.cells #[.pointer (some ⟨d, 0, none⟩)] 89)).cell? ⟨w.heap.size, 0, none⟩ = some (.pointer (some ⟨d, 0, none⟩)) := by simp
  have HC := hid (containsFuncG (fun w1 => Turns m (w.alloc (.cells #[.pointer (some ⟨d, 0, none⟩)] 89)) w1 ∧ Dec w1 d m) (fun g => !sqB g.1 g.2) 183 #[.pointer (some ⟨w.heap.size, 0, none⟩)] gs _ (w.alloc (.cells #[.pointer (some ⟨d, 0, none⟩)] 89))
    (fun w1 h => (hv.keeps kA).turns h.1) ⟨Turns.refl _ _, hd.keeps kA⟩ enters_all_1 (fun g hg q n' c s w1 h hl hs => by
      obtain ⟨g1, g2, g3, g4⟩ := hgs g hg
      refine (all_1_any n ih g.1 g.2 g1 g2 g3 g4 q n' c s d m w.heap.size w1 hl hs h.2 (h.1.2 _ _ hb)).mono ?_
      rintro e w2 ⟨rfl, ht, hd2⟩
      exact ⟨rfl, h.1.trans ht, hd2⟩))
  clear hv hd hgs
  go_enter Tryz.func167, Tryz.ntmps167
  go_wp2_with fail
  refine HC.out.mono ?_; rintro e w2 ⟨rfl, ht, hd2⟩
  go_wp2_with fail
  go_ret
  exact ⟨rfl, (Turns.ofKeeps kA).trans ht, hd2⟩
end Go.Proofs.YtajjlnonmaghlaaGreat
/- The decider: what tries asks. -/
namespace Go.Proofs.YtajjlnonmaghlaaGreat
open Go.RowKit
open Classical in
/-- what is asked of a text, as what is asked of its formula -/
noncomputable def prT (L : List Fm) (f : Fm → Bool) (s : ByteArray) : Bool := decide (∃ a, a ∈ L ∧ bts s = a.body ∧ f a = true)
theorem prT_eq {L : List Fm} (hL : OkL L) (f : Fm → Bool) {a : Fm} (ha : a ∈ L) {s : ByteArray} (hs : bts s = a.body) : prT L f s = f a := by
  unfold prT
  rw [Bool.eq_iff_iff, decide_eq_true_iff]
  constructor
  · rintro ⟨b, hb, h1, h2⟩
    rw [← body_inj (hL b hb).1 (hL a ha).1 (h1.symm.trans hs)]
    exact h2
  · exact fun h => ⟨a, ha, hs, h⟩
theorem txts_mem : ∀ {ss : List ByteArray} {L : List Fm}, Txts ss L → ∀ x ∈ ss, ∃ a ∈ L, bts x = a.body := by
  intro ss L h x hx
  have h1 : bts x ∈ ss.map bts := List.mem_map.2 ⟨x, hx, rfl⟩
  rw [h, List.mem_map] at h1
  obtain ⟨a, ha, e⟩ := h1
  exact ⟨a, ha, e.symm⟩
theorem any_prT {ss : List ByteArray} {L : List Fm} (hL : OkL L) (f : Fm → Bool) (h : Txts ss L) : ss.any (prT L f) = L.any f := by
  rw [Bool.eq_iff_iff, List.any_eq_true, List.any_eq_true]
  constructor
  · rintro ⟨x, hx, hp⟩
    obtain ⟨a, ha, e⟩ := txts_mem h x hx
    exact ⟨a, ha, by rw [← prT_eq hL f ha e]; exact hp⟩
  · rintro ⟨a, ha, hp⟩
    have h1 : a.body ∈ L.map Fm.body := List.mem_map.2 ⟨a, ha, rfl⟩
    rw [← h, List.mem_map] at h1
    obtain ⟨x, hx, e⟩ := h1
    exact ⟨x, hx, by rw [prT_eq hL f ha e]; exact hp⟩
open Classical in
/-- what tries asks of a formula of the left side -/
noncomputable def triesF (G : List Fm) (c t : Fm) : Bool := decide (∃ x y b, t = Fm.imp (Fm.imp x y) b ∧ Way G c x y b)
theorem triesF_no {G : List Fm} {c t : Fm} (h : ∀ x y b, t ≠ Fm.imp (Fm.imp x y) b) : triesF G c t = false := by
  unfold triesF
  rw [decide_eq_false_iff_not]
  rintro ⟨x, y, b, e, _⟩
  exact h x y b e
open Classical in
theorem triesF_way {G : List Fm} {c x y b : Fm} (hm : Fm.imp (Fm.imp x y) b ∈ G) {K L : List Fm} (hK : ∀ a, a ∈ K ↔ a ∈ [Fm.imp y b] ∨ a ∈ G.filter (fun a => !decide (a = Fm.imp (Fm.imp x y) b))) (hL : ∀ a, a ∈ L ↔ a ∈ [b] ∨ a ∈ G.filter (fun a => !decide (a = Fm.imp (Fm.imp x y) b))) :
    triesF G c (Fm.imp (Fm.imp x y) b) = (sqB K (Fm.imp x y) && sqB L c) := by
  unfold triesF
  rw [Bool.eq_iff_iff, decide_eq_true_iff, Bool.and_eq_true, sqB_iff, sqB_iff]
  rw [← way_iff' (mem_split hm) (fun a => by rw [hK a]; simp) (fun a => by rw [hL a]; simp)]
  constructor
  · rintro ⟨x', y', b', e, h⟩
    cases e
    exact h
  · exact fun h => ⟨x, y, b, rfl, h⟩
/-- three cells -/
def S3 (w : World) (b1 b2 : Nat) (d : Nat) (v : Value) (s : ByteArray) : Prop := w.cell? ⟨b1, 0, none⟩ = some (.pointer (some ⟨d, 0, none⟩)) ∧ w.cell? ⟨b2, 0, none⟩ = some v ∧ w.cell? ⟨b2, 1, none⟩ = some (.string s)
theorem S3.keeps {w w' : World} {b1 b2 d : Nat} {v : Value} {s : ByteArray} (h : S3 w b1 b2 d v s) (k : Keeps w w') : S3 w' b1 b2 d v s := ⟨k.cell h.1, k.cell h.2.1, k.cell h.2.2⟩
theorem S3.turns {m : Nat} {w w' : World} {b1 b2 d : Nat} {v : Value} {s : ByteArray} (h : S3 w b1 b2 d v s) (k : Turns m w w') : S3 w' b1 b2 d v s := ⟨k.2 _ _ h.1, k.2 _ _ h.2.1, k.2 _ _ h.2.2⟩
theorem S3.alloc {w : World} {b1 b2 d : Nat} {v : Value} {s : ByteArray} (h : S3 w b1 b2 d v s) (o : Obj) : S3 (w.alloc o) b1 b2 d v s := h.keeps ((Keeps.refl w).alloc o)
theorem S3.drew {w : World} {b1 b2 d : Nat} {v : Value} {s : ByteArray} (h : S3 w b1 b2 d v s) : S3 w.drew b1 b2 d v s := h
theorem Turns.keep {m : Nat} {a b c : World} (h : Turns m a b) (k : Keeps b c) : Turns m a c := h.trans (Turns.ofKeeps k)
theorem Turns.alloc {m : Nat} {a b : World} (h : Turns m a b) (o : Obj) : Turns m a (b.alloc o) := h.keep ((Keeps.refl b).alloc o)
theorem cells4_turns {m : Nat} {w w' : World} {a b c d : Addr} {u v x y : Value} (k : Turns m w w') (h : (w.cell? a = some u ∧ w.cell? b = some v) ∧ (w.cell? c = some x ∧ w.cell? d = some y)) : (w'.cell? a = some u ∧ w'.cell? b = some v) ∧ (w'.cell? c = some x ∧ w'.cell? d = some y) := ⟨⟨k.2 _ _ h.1.1, k.2 _ _ h.1.2⟩, ⟨k.2 _ _ h.2.1, k.2 _ _ h.2.2⟩⟩
theorem enters_tries_1 : Enters 187 := fun _ _ => by kernel_rfl
theorem enters_tries_2 : Enters 188 := fun _ _ => by kernel_rfl
set_option maxRecDepth 20000 in
set_option maxHeartbeats 1000000 in
theorem tries_1_any (n : Nat) (ih : ProvesOk n) (G : List Fm) (c : Fm) (hG : OkL G) (hc : OkF c) (hn : wts G + wt c < n) (hl : wts G + wt c ≤ 50000000) (p : Option Addr) (k q : Nat) (s x : ByteArray) (d m b1 b2 : Nat) (w : World)
    (hv : Left w (.slice p k q) G) (hx : bts x = c.body) (hd : Dec w d m) (hb : S3 w b1 b2 d (.slice p k q) s) :
    Calls Tryz.prog 187 #[.string x, .pointer (some ⟨b1, 0, none⟩), .pointer (some ⟨b2, 0, none⟩)] w (Says w d m (sqB G c)) := by
  have kD := (Keeps.refl w).drew
  have H := hid (fun w2 (kw : Keeps w w2) => ih G c hG hc hn hl p k q x d m w2 (hv.keeps kw) hx (hd.keeps kw))
  have HP := hid (proving_any p k q s x w.drew)
  have hb0 := hb.drew
  obtain ⟨c1, c2, c3⟩ := hb
  clear hv hd
  go_enter Tryz.func187, Tryz.ntmps187
  go_wp2_with fail
  go_region_held3 (fun w' => w'.cell? ⟨b1, 0, none⟩ = some (.pointer (some ⟨d, 0, none⟩)) ∧ w'.cell? ⟨b2, 0, none⟩ = some (.slice p k q) ∧ w'.cell? ⟨b2, 1, none⟩ = some (.string s)) (first | exact hb0 | exact hb2 | exact hb3) (first
    | (go_at_call 168; refine HP.out.mono ?_; rintro e w2 ⟨rfl, k2⟩; have hb2 := hb0.keeps k2)
    | (go_at_call 125; refine (H.out w2 (kD.trans k2)).mono ?_; rintro e w3 ⟨rfl, ht, hd3⟩; have hb3 := hb2.turns ht))
  all_goals
    go_wp2
    go_ret
    exact ⟨rfl, (Turns.ofKeeps (kD.trans k2)).trans ht, hd3⟩
end Go.Proofs.YtajjlnonmaghlaaGreat
