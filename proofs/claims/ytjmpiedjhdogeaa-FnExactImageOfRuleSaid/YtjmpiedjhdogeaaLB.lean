/- Arguments too great for the laws: their sizes answer -1. -/
import Derived.Test.YtjmpiedjhdogeaaL6
namespace Go.Proofs.Ytjmpiedjhdogeaa
open Go.RowKit
/-- a slice of nodes of whatever length -/
def WkN (w : World) (v : Value) : Prop := ∃ p n cap, v = .slice p n cap ∧ n ≤ maxLen ∧ (n ≤ 2147483648 → ∃ a : List Nd, a.length = n ∧ Nds w v a)
/-- a slice of slices of nodes of whatever lengths -/
def WkL (w : World) (v : Value) : Prop := ∃ p n cap, v = .slice p n cap ∧ n ≤ maxLen ∧ (n ≤ 2147483648 → ∃ ns : List Nat, ns.length = n ∧ LenL w v ns ∧ ((∀ m ∈ ns, m ≤ 2147483648) → ∃ xs : List (List Nd), xs.map List.length = ns ∧ NdsL w v xs))
/-- a size answers -1 from now on -/
def Szs (f : FuncId) (v : Value) (left : Int) (w : World) : Prop := ∀ w', Keeps w w' → Calls Try.prog f #[v, .int .i64 left] w' fun e w'' => e = .returned (.int .i64 (-1)) ∧ Keeps w' w''
theorem sumN_mem {ns : List Nat} {m : Nat} (h : m ∈ ns) : m ≤ sumN ns := by
  induction ns with
  | nil => simp at h
  | cons n ns ih =>
    rcases List.mem_cons.1 h with rfl | h
    · simp only [sumN]; omega
    · have := ih h; simp only [sumN]; omega
--
theorem szN_weak {w : World} {v : Value} (h : WkN w v) (left : Int) (h0 : 0 ≤ left) (h1 : left ≤ 1048576) : (∃ a : List Nd, Nds w v a ∧ a.length ≤ left) ∨ Szs 7 v left w := by
  obtain ⟨p, n, cap, rfl, hm, hn⟩ := h
  by_cases hb : left < n
  · right
    intro w' _
    refine (szNodeS_any p n cap left w' hm h0 h1).mono ?_
    rintro e w'' ⟨rfl, rfl⟩
    exact ⟨ret_int (by rw [if_pos hb]), Keeps.refl _⟩
  · obtain ⟨a, ha, hr⟩ := hn (by omega)
    exact .inl ⟨a, hr, by omega⟩
--
theorem szL_weak {w : World} {v : Value} (h : WkL w v) (left : Int) (h0 : 0 ≤ left) (h1 : left ≤ 1048576) : (∃ l : List (List Nd), NdsL w v l ∧ l.length + tot l ≤ left) ∨ Szs 17 v left w := by
  obtain ⟨p, n, cap, rfl, hm, hn⟩ := h
  by_cases hb : left < n
  · right
    intro w' _
    refine (szNodeSS_long p n cap left w' hm h0 h1 hb).mono ?_
    rintro e w'' ⟨rfl, rfl⟩
    exact ⟨rfl, Keeps.refl _⟩
  · obtain ⟨ns, rfl, hl, hx⟩ := hn (by omega)
    by_cases hs : left - ns.length < sumN ns
    · right
      intro w' k
      refine (szNodeSS_len ns _ left w' (hl.keeps k) h0 h1).mono ?_
      rintro e w'' ⟨rfl, rfl⟩
      exact ⟨ret_int (by rw [if_neg hb, if_pos hs]), Keeps.refl _⟩
    · obtain ⟨xs, e, hr⟩ := hx (fun m hm => by have := sumN_mem hm; omega)
      subst e
      rw [sumN_tot, List.length_map] at hs
      exact .inl ⟨xs, hr, by omega⟩
--
set_option maxRecDepth 20000 in
set_option maxHeartbeats 1000000 in
theorem szR_weak {w : World} {v u : Value} (h : WkL w v) (h' : WkN w u) (left : Int) (h0 : 0 ≤ left) (h1 : left ≤ 1048576) :
    (∃ (xs : List (List Nd)) (c : List Nd), NdsL w v xs ∧ Nds w u c ∧ xs.length + tot xs + c.length ≤ left) ∨ Szs 16 (.agg #[v, u]) left w := by
  rcases szL_weak h left h0 h1 with ⟨xs, hx, hs⟩ | hbad
  · rcases szN_weak h' (left - xs.length - tot xs) (by omega) (by omega) with ⟨c, hc, hs2⟩ | hbad
    · exact .inl ⟨xs, c, hx, hc, by omega⟩
    · right
      intro w' k
      obtain ⟨p1, n1, q1, rfl⟩ := agg_shape hx
      obtain ⟨p2, n2, q2, rfl, _⟩ := h'
      have k1 := (Keeps.refl w').alloc (.cells #[.slice p1 n1 q1, .slice p2 n2 q2] 38)
      have HZ := hid (szNodeSS_any xs _ left _ ((hx.keeps k).keeps k1) h0 h1 (by omega))
      have HB := hid (hbad _ (k.trans k1))
      have hp1 : (0 : Int) ≤ left - xs.length - tot xs := by omega
      clear hx hbad h
      go_enter Try.func16, Try.ntmps16
      go_wp2_with fail
      refine HZ.out.mono ?_; rintro e w' ⟨rfl, rfl⟩
      go_wp2_with fail
      refine HB.out.mono ?_; rintro e w2 ⟨rfl, k2⟩
      go_wp2_with fail
      go_ret
      exact ⟨rfl, k1.trans k2⟩
  · right
    intro w' k
    obtain ⟨p1, n1, q1, rfl, _⟩ := h
    obtain ⟨p2, n2, q2, rfl, _⟩ := h'
    have k1 := (Keeps.refl w').alloc (.cells #[.slice p1 n1 q1, .slice p2 n2 q2] 38)
    have HB := hid (hbad _ (k.trans k1))
    clear hbad
    go_enter Try.func16, Try.ntmps16
    go_wp2_with fail
    refine HB.out.mono ?_; rintro e w2 ⟨rfl, k2⟩
    go_wp2_with fail
    go_ret
    exact ⟨rfl, k1.trans k2⟩
end Go.Proofs.Ytjmpiedjhdogeaa
