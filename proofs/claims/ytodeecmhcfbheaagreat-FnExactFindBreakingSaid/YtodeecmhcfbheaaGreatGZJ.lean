/- Plain mathematics: the first of all substitutions by candidates for which a condition holds; counting them. No program in sight. -/
import Derived.Test.YtodeecmhcfbheaaGreatGPl
import Derived.Test.YtodeecmhcfbheaaGreatGM3
import Derived.Test.YtodeecmhcfbheaaGreatGM5
import Derived.Test.YtodeecmhcfbheaaGreatGN1
import Derived.Test.YtodeecmhcfbheaaGreatGSH
import Derived.Test.YtodeecmhcfbheaaGreatGVE
import Derived.Test.YtodeecmhcfbheaaGreatGK8
import Derived.Test.YtodeecmhcfbheaaGreatGYA
import Derived.Test.YtodeecmhcfbheaaGreatGPV
import Derived.ArgAppend
import Derived.Deep.RegionHeld3
namespace Go.Proofs.YtodeecmhcfbheaaGreat
section
variable {β : Type}
/-- the first substitution by candidates for which P answers yes; the first variable turns slowest -/
def firstC (P : List β → Bool) (cs : List β) : List Int → List β → Option (List β)
  | [], ims => if P ims then some ims else none
  | v :: vs, ims => cs.findSome? fun c => firstC P cs vs (ims.set v.toNat c)
/-- alike but at some variables -/
def Agree (vs : List Int) (a b : List β) : Prop := a.length = b.length ∧ ∀ i : Nat, (i : Int) ∉ vs → a[i]? = b[i]?
theorem Agree.refl (vs : List Int) (a : List β) : Agree vs a a := ⟨rfl, fun _ _ => rfl⟩
theorem Agree.trans {vs : List Int} {a b c : List β} (h : Agree vs a b) (k : Agree vs b c) : Agree vs a c := ⟨h.1.trans k.1, fun i hi => (h.2 i hi).trans (k.2 i hi)⟩
theorem Agree.symm {vs : List Int} {a b : List β} (h : Agree vs a b) : Agree vs b a := ⟨h.1.symm, fun i hi => (h.2 i hi).symm⟩
theorem Agree.nil {a b : List β} (h : Agree [] a b) : a = b := List.ext_getElem? fun i => h.2 i (by simp)
theorem Agree.mono {vs us : List Int} {a b : List β} (h : Agree vs a b) (hs : ∀ x ∈ vs, x ∈ us) : Agree us a b := ⟨h.1, fun i hi => h.2 i (fun e => hi (hs _ e))⟩
theorem Agree.set {v : Int} {vs : List Int} {a b : List β} (h : Agree (v :: vs) a b) (c : β) (hv : 0 ≤ v) : Agree vs (a.set v.toNat c) (b.set v.toNat c) :=
  ⟨by simp [h.1], fun i hi => by
    by_cases e : v.toNat = i
    · subst e
      by_cases hl : v.toNat < a.length
      · rw [List.getElem?_set_self hl, List.getElem?_set_self (by rw [← h.1]; exact hl)]
      · rw [List.getElem?_eq_none (by simp; omega), List.getElem?_eq_none (by have := h.1; simp; omega)]
    · rw [List.getElem?_set_ne e, List.getElem?_set_ne e]
      refine h.2 i (fun hm => ?_)
      rcases List.mem_cons.1 hm with h1 | h1
      · omega
      · exact hi h1⟩
theorem Agree.setL {v : Int} {vs : List Int} (a : List β) (c : β) (hv : 0 ≤ v) : Agree (v :: vs) (a.set v.toNat c) a :=
  ⟨by simp, fun i hi => by
    have : v.toNat ≠ i := fun e => hi (by rw [← e]; simp; omega)
    rw [List.getElem?_set_ne this]⟩
theorem findSome_congr {α γ : Type} {f g : α → Option γ} : ∀ (l : List α), (∀ x ∈ l, f x = g x) → l.findSome? f = l.findSome? g
  | [], _ => rfl
  | x :: l, h => by
    rw [List.findSome?_cons, List.findSome?_cons, h x (by simp), findSome_congr l (fun y hy => h y (by simp [hy]))]
theorem firstC_agree (P : List β → Bool) (cs : List β) : ∀ (vs : List Int), (∀ v ∈ vs, 0 ≤ v) → ∀ a b, Agree vs a b → firstC P cs vs a = firstC P cs vs b
  | [], _, a, b, h => by rw [h.nil]
  | v :: vs, hp, a, b, h => findSome_congr cs fun c _ => firstC_agree P cs vs (fun x hx => hp x (by simp [hx])) _ _ (h.set c (hp v (by simp)))
theorem firstC_at (P : List β → Bool) (cs : List β) (v : Int) (vs : List Int) (a r : List β) : ∀ (j : Nat) (hj : j < cs.length), (∀ t (ht : t < cs.length), t < j → firstC P cs vs (a.set v.toNat cs[t]) = none) → firstC P cs vs (a.set v.toNat cs[j]) = some r → firstC P cs (v :: vs) a = some r := by
  have gen : ∀ (l : List β) (f : β → Option (List β)) (j : Nat) (hj : j < l.length), (∀ t (ht : t < l.length), t < j → f l[t] = none) → f l[j] = some r → l.findSome? f = some r := by
    intro l f
    induction l with
    | nil => intro j hj; simp at hj
    | cons y l ih =>
      intro j hj h1 h2
      cases j with
      | zero => rw [List.findSome?_cons]; simp only [List.getElem_cons_zero] at h2; rw [h2]
      | succ j =>
        have h0 := h1 0 (by simp) (by omega)
        simp only [List.getElem_cons_zero] at h0
        rw [List.findSome?_cons, h0]
        exact ih j (by simpa using hj) (fun t ht htj => by
          have h3 := h1 (t + 1) (by simpa using ht) (by omega)
          simp only [List.getElem_cons_succ] at h3; exact h3) (by simp only [List.getElem_cons_succ] at h2; exact h2)
  intro j hj h1 h2
  exact gen cs _ j hj h1 h2
theorem firstC_end (P : List β → Bool) (cs : List β) (v : Int) (vs : List Int) (a : List β) (h : ∀ t (ht : t < cs.length), firstC P cs vs (a.set v.toNat cs[t]) = none) : firstC P cs (v :: vs) a = none := by
  unfold firstC
  rw [List.findSome?_eq_none_iff]
  intro c hc
  obtain ⟨t, ht, rfl⟩ := List.getElem_of_mem hc
  exact h t ht
/-- what is found agrees with what was there outside the variables -/
theorem firstC_out (P : List β → Bool) (cs : List β) : ∀ (vs : List Int), (∀ v ∈ vs, 0 ≤ v) → ∀ a r, firstC P cs vs a = some r → Agree vs r a ∧ P r = true
  | [], _, a, r, h => by
    unfold firstC at h
    split at h
    · cases h; exact ⟨Agree.refl _ _, by assumption⟩
    · cases h
  | v :: vs, hp, a, r, h => by
    obtain ⟨c, _, h1⟩ := List.exists_of_findSome?_eq_some h
    obtain ⟨h2, h3⟩ := firstC_out P cs vs (fun x hx => hp x (by simp [hx])) _ _ h1
    exact ⟨(h2.mono (fun x hx => by simp [hx])).trans (Agree.setL a c (hp v (by simp))), h3⟩
/-- all of what is found comes from what was there and from the candidates -/
theorem firstC_mem (P : List β → Bool) (cs : List β) : ∀ (vs : List Int) a r, firstC P cs vs a = some r → ∀ x ∈ r, x ∈ a ∨ x ∈ cs
  | [], a, r, h => by
    unfold firstC at h
    split at h
    · cases h; exact fun x hx => .inl hx
    · cases h
  | v :: vs, a, r, h => by
    obtain ⟨c, hc, h1⟩ := List.exists_of_findSome?_eq_some h
    intro x hx
    rcases firstC_mem P cs vs _ _ h1 x hx with h2 | h2
    · rcases List.mem_or_eq_of_mem_set h2 with h3 | h3
      · exact .inl h3
      · exact .inr (h3 ▸ hc)
    · exact .inr h2
/-- the substitution with a number; the variables stand in reverse -/
def pickC (cs : List β) : List Int → Nat → List β → List β
  | [], _, ims => ims
  | v :: vs, n, ims => match cs[n % cs.length]? with
    | none => ims
    | some c => pickC cs vs (n / cs.length) (ims.set v.toNat c)
theorem set_comm {l : List β} {i j : Nat} (h : i ≠ j) (x y : β) : (l.set i x).set j y = (l.set j y).set i x := List.set_comm x y h
theorem pickC_set (cs : List β) (v : Int) (c : β) : ∀ (vs : List Int), (∀ x ∈ vs, x.toNat ≠ v.toNat) → ∀ n ims, pickC cs vs n (ims.set v.toNat c) = (pickC cs vs n ims).set v.toNat c
  | [], _, n, ims => rfl
  | u :: vs, h, n, ims => by
    simp only [pickC]
    cases cs[n % cs.length]? with
    | none => rfl
    | some d =>
      simp only []
      rw [set_comm (h u (by simp)).symm, pickC_set cs v c vs (fun x hx => h x (by simp [hx]))]
theorem pickC_snoc (cs : List β) (hc : 0 < cs.length) (v : Int) : ∀ (vs : List Int) n ims, pickC cs (vs ++ [v]) n ims = (pickC cs vs n ims).set v.toNat (cs[(n / cs.length ^ vs.length) % cs.length]'(Nat.mod_lt _ hc))
  | [], n, ims => by
    have h1 : n % cs.length < cs.length := Nat.mod_lt _ hc
    simp [pickC, h1]
  | u :: vs, n, ims => by
    have h1 : n % cs.length < cs.length := Nat.mod_lt _ hc
    simp only [List.cons_append, pickC, List.getElem?_eq_getElem h1]
    rw [pickC_snoc cs hc v vs]
    congr 2
    rw [Nat.div_div_eq_div_mul, List.length_cons, Nat.pow_succ, Nat.mul_comm]
theorem pickC_mod (cs : List β) (hc : 0 < cs.length) : ∀ (vs : List Int) (k n : Nat) ims, vs.length ≤ k → pickC cs vs (n % cs.length ^ k) ims = pickC cs vs n ims
  | [], k, n, ims, _ => rfl
  | u :: vs, 0, n, ims, h => by simp at h
  | u :: vs, k + 1, n, ims, h => by
    have h1 : n % cs.length < cs.length := Nat.mod_lt _ hc
    have e1 : n % cs.length ^ (k + 1) % cs.length = n % cs.length := Nat.mod_mod_of_dvd n ⟨cs.length ^ k, by rw [Nat.pow_succ, Nat.mul_comm]⟩
    have e2 : n % cs.length ^ (k + 1) / cs.length = (n / cs.length) % cs.length ^ k := by
      rw [Nat.pow_succ, Nat.mul_comm, Nat.mod_mul_right_div_self]
    simp only [pickC, e1, e2, List.getElem?_eq_getElem h1]
    exact pickC_mod cs hc vs k _ _ (by simpa using h)
theorem findSome_range_mul {γ : Type} (f : Nat → Option γ) (K : Nat) : ∀ n, (List.range (n * K)).findSome? f = (List.range n).findSome? fun q => (List.range K).findSome? fun r => f (q * K + r)
  | 0 => by simp
  | n + 1 => by
    rw [List.range_succ, List.findSome?_append, ← findSome_range_mul f K n, Nat.succ_mul, List.range_add, List.findSome?_append, List.findSome?_map]
    congr 1
    simp only [List.findSome?_cons, List.findSome?_nil]
    have : (f ∘ fun x => n * K + x) = fun r => f (n * K + r) := rfl
    rw [this]
    cases (List.range K).findSome? (fun r => f (n * K + r)) <;> rfl
theorem findSome_range_get {γ : Type} (g : β → Option γ) : ∀ (cs : List β), (List.range cs.length).findSome? (fun q => (cs[q]?).bind g) = cs.findSome? g := by
  intro cs
  induction cs with
  | nil => rfl
  | cons c cs ih =>
    rw [List.length_cons, List.range_succ_eq_map, List.findSome?_cons, List.findSome?_cons, List.findSome?_map, ← ih]
    rfl
/-- a test of one substitution -/
def testC (P : List β → Bool) (ims : List β) : Option (List β) := if P ims then some ims else none
/-- all numbers in order find the same -/
theorem firstC_pick (P : List β → Bool) (cs : List β) (hc : 0 < cs.length) : ∀ (vs : List Int), (vs.map Int.toNat).Nodup → ∀ ims,
    firstC P cs vs ims = (List.range (cs.length ^ vs.length)).findSome? fun n => testC P (pickC cs vs.reverse n ims)
  | [], _, ims => by simp [firstC, testC, pickC, List.range_succ]
  | v :: vs, hn, ims => by
    have hn' : v.toNat ∉ vs.map Int.toNat ∧ (vs.map Int.toNat).Nodup := by simpa using hn
    have hne : ∀ x ∈ vs.reverse, x.toNat ≠ v.toNat := fun x hx e => hn'.1 (List.mem_map.2 ⟨x, by simpa using hx, e⟩)
    rw [List.length_cons, Nat.pow_succ, Nat.mul_comm, findSome_range_mul, firstC, ← findSome_range_get]
    refine findSome_congr _ fun q hq => ?_
    have hq' : q < cs.length := List.mem_range.1 hq
    rw [List.getElem?_eq_getElem hq', Option.bind_some, firstC_pick P cs hc vs hn'.2]
    refine findSome_congr _ fun r hr => ?_
    have hr' : r < cs.length ^ vs.length := List.mem_range.1 hr
    have hK : 0 < cs.length ^ vs.length := Nat.pow_pos hc
    rw [List.reverse_cons, pickC_snoc cs hc v, pickC_set cs v _ _ hne]
    have e1 : (q * cs.length ^ vs.length + r) / cs.length ^ vs.reverse.length % cs.length = q := by
      rw [List.length_reverse, Nat.mul_comm, Nat.mul_add_div hK, Nat.div_eq_of_lt hr', Nat.add_zero, Nat.mod_eq_of_lt hq']
    have e2 : pickC cs vs.reverse (q * cs.length ^ vs.length + r) ims = pickC cs vs.reverse r ims := by
      rw [← pickC_mod cs hc vs.reverse vs.length (q * cs.length ^ vs.length + r) ims (by simp), Nat.mul_comm, Nat.mul_add_mod, Nat.mod_eq_of_lt hr']
    simp only [e1, e2]
/-- no candidate, but a variable: nothing is found -/
theorem firstC_none (P : List β → Bool) (vs : List Int) (hv : 0 < vs.length) (ims : List β) : firstC P [] vs ims = none := by
  cases vs with
  | nil => simp at hv
  | cons v vs => rfl
theorem findSome_range_at {γ : Type} (f : Nat → Option γ) (r : γ) : ∀ (N k : Nat), k < N → (∀ j, j < k → f j = none) → f k = some r → (List.range N).findSome? f = some r
  | 0, k, h, _, _ => by omega
  | N + 1, k, h, hn, hf => by
    rw [List.range_succ, List.findSome?_append]
    by_cases e : k < N
    · rw [findSome_range_at f r N k e hn hf]; rfl
    · obtain rfl : k = N := by omega
      have : (List.range k).findSome? f = none := by
        rw [List.findSome?_eq_none_iff]; intro j hj; exact hn j (by simpa using hj)
      rw [this, List.findSome?_cons, hf]; rfl
theorem pow_posC {m n : Nat} {k : Nat} (h : k < m ^ n) : n = 0 ∨ 0 < m := by
  rcases Nat.eq_zero_or_pos n with e | e
  · exact .inl e
  · rcases Nat.eq_zero_or_pos m with e2 | e2
    · subst e2
      rw [Nat.zero_pow e] at h; omega
    · exact .inr e2
theorem firstC_found (P : List β → Bool) (cs : List β) (vs : List Int) (hd : (vs.map Int.toNat).Nodup) (ims : List β) (k : Nat) (hk : k < cs.length ^ vs.length)
    (hn : ∀ j, j < k → testC P (pickC cs vs.reverse j ims) = none) (h : P (pickC cs vs.reverse k ims) = true) : firstC P cs vs ims = some (pickC cs vs.reverse k ims) := by
  have hf : testC P (pickC cs vs.reverse k ims) = some (pickC cs vs.reverse k ims) := by unfold testC; rw [if_pos h]
  rcases pow_posC hk with e | e
  · obtain rfl := List.eq_nil_of_length_eq_zero e
    have hp : P ims = true := h
    simp [firstC, pickC, hp]
  · rw [firstC_pick P cs e vs hd]
    exact findSome_range_at _ _ _ k hk hn hf
theorem firstC_lost (P : List β → Bool) (cs : List β) (vs : List Int) (hd : (vs.map Int.toNat).Nodup) (ims : List β)
    (hn : ∀ j, j < cs.length ^ vs.length → testC P (pickC cs vs.reverse j ims) = none) : firstC P cs vs ims = none := by
  rcases Nat.eq_zero_or_pos vs.length with e | e
  · obtain rfl := List.eq_nil_of_length_eq_zero e
    have := hn 0 (by simp)
    unfold testC at this
    simp only [List.reverse_nil, pickC] at this
    unfold firstC
    exact this
  · rcases Nat.eq_zero_or_pos cs.length with e2 | e2
    · obtain rfl := List.eq_nil_of_length_eq_zero e2
      exact firstC_none P vs e ims
    · rw [firstC_pick P cs e2 vs hd, List.findSome?_eq_none_iff]
      intro j hj
      exact hn j (by simpa using hj)
theorem testC_none {P : List β → Bool} {ims : List β} : testC P ims = none ↔ P ims = false := by
  unfold testC
  cases P ims <;> simp
theorem pickC_mem (cs : List β) : ∀ (vs : List Int) n a, ∀ x ∈ pickC cs vs n a, x ∈ a ∨ x ∈ cs
  | [], _, a => fun x hx => .inl hx
  | v :: vs, n, a => by
    intro x hx
    simp only [pickC] at hx
    cases hg : cs[n % cs.length]? with
    | none => rw [hg] at hx; exact .inl hx
    | some c =>
      rw [hg] at hx
      rcases pickC_mem cs vs _ _ x hx with h2 | h2
      · rcases List.mem_or_eq_of_mem_set h2 with h3 | h3
        · exact .inl h3
        · exact .inr (h3 ▸ List.mem_of_getElem? hg)
      · exact .inr h2
theorem pickC_len (cs : List β) : ∀ (vs : List Int) n a, (pickC cs vs n a).length = a.length
  | [], _, _ => rfl
  | v :: vs, n, a => by
    simp only [pickC]
    cases cs[n % cs.length]? with
    | none => rfl
    | some c => simp [pickC_len cs vs]
end
/-- how many substitutions there are, but at most 601 -/
def cap601 (m : Nat) : Nat → Nat
  | 0 => 1
  | k + 1 => min (cap601 m k * m) 601
theorem cap601_eq (m : Nat) : ∀ k, cap601 m k = min (m ^ k) 601
  | 0 => by simp [cap601]
  | k + 1 => by
    have h := cap601_eq m k
    rw [cap601, h, Nat.pow_succ]
    by_cases h1 : m ^ k ≤ 601
    · rw [Nat.min_eq_left h1]
    · have h2 : 601 ≤ m ^ k := by omega
      rw [Nat.min_eq_right h2]
      rcases Nat.eq_zero_or_pos m with h0 | h0
      · subst h0; simp
      · have h3 : m ^ k ≤ m ^ k * m := Nat.le_mul_of_pos_right _ h0
        have h4 : 601 ≤ 601 * m := Nat.le_mul_of_pos_right _ h0
        omega
end Go.Proofs.YtodeecmhcfbheaaGreat
/- Walks: the variables of lists of formulas, on both sides. -/
namespace Go.Proofs.YtodeecmhcfbheaaGreat
open Go.RowKit
/-- the mask of the variables of formulas -/
def vmL (l : List (List Nd)) : Nat := l.foldl (fun m a => m ||| vm a) 0
theorem vmL_take (l : List (List Nd)) (k : Nat) (h : k < l.length) : vmL (l.take (k + 1)) = vmL (l.take k) ||| vm l[k] := by
  unfold vmL; rw [List.take_succ_eq_append_getElem h, List.foldl_append]; rfl
theorem vm_64 {a : List Nd} (h : a.all okNd = true) : vm a < 64 := by
  have := vm_lt h a.length (Nat.le_refl _)
  rwa [List.take_length] at this
theorem vmL_lt {l : List (List Nd)} (h : ∀ a ∈ l, a.all okNd = true) : ∀ k, k ≤ l.length → vmL (l.take k) < 64
  | 0, _ => by simp [vmL]
  | k + 1, hk => by
    rw [vmL_take l k (by omega)]
    exact Nat.or_lt_two_pow (n := 6) (vmL_lt h k (by omega)) (vm_64 (h _ (List.getElem_mem (by omega))))
theorem vmL_one (a : List Nd) : vmL [a] = vm a := by simp [vmL]
theorem or64 : ∀ (m n : Fin 64), bits BinOp.or IntKind.i64 ((m : Nat) : Int) ((n : Nat) : Int) = (((m : Nat) ||| (n : Nat) : Nat) : Int) := by decide +kernel
theorem mem_nodup : ∀ m : Fin 64, ((mem m).map Int.toNat).Nodup := by decide +kernel
theorem mem_or : ∀ (m n : Fin 64), (mem n).foldl (fun acc i => acc ||| 2 ^ i.toNat) (m : Nat) = (m : Nat) ||| (n : Nat) := by decide +kernel
theorem mem_fold_lt (l : List Int) (h : ∀ x ∈ l, ∃ k : Nat, k < 6 ∧ x = k) : ∀ m, m < 64 → l.foldl (fun acc i => acc ||| 2 ^ i.toNat) m < 64 := by
  induction l with
  | nil => intro m hm; exact hm
  | cons x l ih =>
    intro m hm
    obtain ⟨k, hk, rfl⟩ := h x (by simp)
    exact ih (fun y hy => h y (by simp [hy])) _ (or_lt ⟨m, hm⟩ ⟨k, hk⟩)
--
set_option maxRecDepth 20000 in
set_option maxHeartbeats 1000000 in
theorem variablesIn_any (l : List (List Nd)) (v : Value) (w : World) (hv : NdsL w v l) (ha : ∀ a ∈ l, a.all okNd = true) : Calls Tryz.prog 100 #[v] w (RetI w (mem (vmL l))) := by
  have hv0 := hv
  obtain ⟨p, cap, rfl, hle, hmx, hlen, _⟩ := hv
  unfold maxLen at hmx
  have HA := hid ha
  have HL := hid (vmL_lt ha); clear ha
  have HM := hid (fun w2 => membersOf_any (vmL l) w2 (by have := HL.out l.length (Nat.le_refl _); rwa [List.take_length] at this))
  go_enter Tryz.func100, Tryz.ntmps100
  go_wp2
  go_loopw [3, 8] (fun c i' wr => ∃ k : Nat, k ≤ l.length ∧ i' = .int .i64 k ∧ c = .int .i64 (vmL (l.take k)) ∧ Keeps w wr) (fun _ i _ => l.length - (intOf i).toNat)
  case atStart => exact ⟨0, by omega, rfl, rfl, Keeps.refl w⟩
  case round =>
    obtain ⟨k, hk, rfl, rfl, kw⟩ := hrel
    by_cases hlt : k < l.length
    · have hlt' : (k : Int) < l.length := by omega
      obtain ⟨b, off, u, rfl, hc, hu⟩ := (NdsL.keeps hv0 kw).get k hlt
      obtain ⟨pu, nu, cu, rfl⟩ := hu.shape
      have hok := HA.out _ (List.getElem_mem hlt)
      have hst := vmL_take l k hlt
      have hor := or64 ⟨vmL (l.take k), HL.out k hk⟩ ⟨vm l[k], vm_64 hok⟩
      simp only at hor
      rw [← hst] at hor
      have HV := hid (variableMask_any l[k] _ wr hu hok)
      have HO := hid hor; clear hor hst hu hok hv0
      generalize vm l[k] = y at *
      generalize vmL (l.take k) = x at *
      go_wp2_with fail
      refine HV.out.mono ?_; rintro e w2 ⟨rfl, k2⟩
      go_wp2_with fail
      go_roundw
      case rel => exact ⟨k + 1, by omega, by go_num, by rw [HO.out], kw.trans k2⟩
      case measure => simp [intOf]; omega
    · obtain rfl : k = l.length := by omega
      have hlt' : ¬ (l.length : Int) < l.length := by omega
      rw [List.take_length]
      go_wp2_with fail
      refine (HM.out _).mono ?_; rintro e w2 ⟨v2, rfl, hv2, k2⟩
      go_wp2_with fail
      go_ret
      exact ⟨_, rfl, hv2.mono kw.size, kw.trans k2⟩
--
set_option maxRecDepth 20000 in
set_option maxHeartbeats 1000000 in
theorem l06Variables_any (l : List (List Nd)) (v : Value) (w : World) (hv : NdsL w v l) (ha : ∀ a ∈ l, a.all okNd = true) : Calls Tryz.prog 186 #[v] w (RetI w (mem (vmL l))) := by
  have hv0 := hv
  obtain ⟨p, cap, rfl, hle, hmx, hlen, _⟩ := hv
  unfold maxLen at hmx
  have HA := hid ha
  have HL := hid (vmL_lt ha); clear ha
  have HM := hid (fun w2 => l01List_any (vmL l) w2 (by have := HL.out l.length (Nat.le_refl _); rwa [List.take_length] at this))
  go_enter Tryz.func186, Tryz.ntmps186
  go_wp2
  go_loopw [3, 4] (fun c i' wr => ∃ k : Nat, k ≤ l.length ∧ i' = .int .i64 k ∧ c = .int .i64 (vmL (l.take k)) ∧ Keeps w wr) (fun _ i _ => l.length - (intOf i).toNat)
  case atStart => exact ⟨0, by omega, rfl, rfl, Keeps.refl w⟩
  case round =>
    obtain ⟨k, hk, rfl, rfl, kw⟩ := hrel
    by_cases hlt : k < l.length
    · have hlt' : (k : Int) < l.length := by omega
      obtain ⟨b, off, u, rfl, hc, hu⟩ := (NdsL.keeps hv0 kw).get k hlt
      obtain ⟨pu, nu, cu, rfl⟩ := hu.shape
      have hok := HA.out _ (List.getElem_mem hlt)
      have hx := HL.out k hk
      have hst := vmL_take l k hlt
      have hmo := mem_or ⟨vmL (l.take k), hx⟩ ⟨vm l[k], vm_64 hok⟩
      simp only at hmo
      rw [← hst] at hmo
      have HO := hid hmo
      have HR := hid (mem_range (vm l[k]))
      have hml := low_len (vm l[k]) 6
      change (mem (vm l[k])).length ≤ 6 at hml
      have HV := hid (l02Variables_any l[k] _ wr hu hok)
      clear hst hmo hu hok
      generalize mem (vm l[k]) = M at *
      generalize vmL (l.take k) = x at *
      go_wp2_with fail
      refine HV.out.mono ?_; rintro e w2 ⟨v2, rfl, hv2, k2⟩
      obtain ⟨p2, c2, rfl, _, hm2, hat2, _⟩ := hv2.ints (by omega)
      unfold maxLen at hm2
      have HT := hid hat2; clear hat2
      have kw2 := hid (kw.trans k2)
      go_wp2_with fail
      go_loop [3, 6] (fun c i' => ∃ j : Nat, j ≤ M.length ∧ i' = .int .i64 j ∧ c = .int .i64 ((M.take j).foldl (fun acc i => acc ||| 2 ^ i.toNat) x : Nat)) (fun _ i => M.length - (intOf i).toNat)
      case atStart => exact ⟨0, by omega, rfl, rfl⟩
      case round =>
        obtain ⟨j, hj, rfl, rfl⟩ := hrel
        by_cases hjt : j < M.length
        · have hjt' : (j : Int) < M.length := by omega
          obtain ⟨b2, o2, rfl, hc2⟩ := HT.out.int j hjt
          obtain ⟨s, hs6, hs⟩ := HR.out M[j] (List.getElem_mem hjt)
          have hf : (M.take (j + 1)).foldl (fun acc i => acc ||| 2 ^ i.toNat) x = (M.take j).foldl (fun acc i => acc ||| 2 ^ i.toNat) x ||| 2 ^ s := by
            rw [List.take_succ_eq_append_getElem hjt, List.foldl_append, hs]; rfl
          have hlt64 := mem_fold_lt (M.take j) (fun y hy => HR.out y (List.mem_of_mem_take hy)) x hx
          have hor := or_table ⟨_, hlt64⟩ ⟨s, hs6⟩
          simp only at hor
          rw [← hf] at hor
          have HF := hid hor; clear hor hf
          rw [hs] at hc2
          generalize (M.take j).foldl (fun acc i => acc ||| 2 ^ i.toNat) x = z at *
          have H1 := hid (l01One_any (s : Int) w2 (by omega) (by omega))
          go_wp2_with fail
          refine H1.out.mono ?_; rintro e w3 ⟨rfl, rfl⟩
          go_wp2_with fail
          go_round
          case rel => exact ⟨j + 1, by omega, by go_num, by rw [← HF.out]⟩
          case measure => simp [intOf]; omega
        · obtain rfl : j = M.length := by omega
          have hjt' : ¬ (M.length : Int) < M.length := by omega
          rw [List.take_length, HO.out]
          go_wp2_with fail
          go_roundw
          case rel => exact ⟨k + 1, by omega, by go_num, rfl, kw2.out⟩
          case measure => simp [intOf]; omega
    · obtain rfl : k = l.length := by omega
      have hlt' : ¬ (l.length : Int) < l.length := by omega
      rw [List.take_length]
      go_wp2_with fail
      refine (HM.out _).mono ?_; rintro e w2 ⟨v2, rfl, hv2, k2⟩
      go_wp2_with fail
      go_ret
      exact ⟨_, rfl, hv2.mono kw.size, kw.trans k2⟩
end Go.Proofs.YtodeecmhcfbheaaGreat
/- The program's firstCandidate: rows that are shared and written, the closure that calls itself. -/
namespace Go.Proofs.YtodeecmhcfbheaaGreat
open Go.RowKit
/-- the identical substitution, as formulas -/
def idF : List Fm := [.var 0, .var 1, .var 2, .var 3, .var 4, .var 5]
theorem idF_enc : idL 6 = idF.map Fm.enc := rfl
theorem idF_ok : OkL idF := by
  intro a ha
  simp [idF] at ha
  rcases ha with rfl | rfl | rfl | rfl | rfl | rfl <;> exact ⟨by simp [Fm.wf], rfl⟩
/-- a list of nodes that does not lie in a block -/
def Far (g : Nat) (w : World) (v : Value) (a : List Nd) : Prop := Nds w v a ∧ ∀ ad n c, v = .slice (some ad) n c → ad.block ≠ g
theorem Far.keeps {g : Nat} {w w' : World} {v : Value} {a : List Nd} (h : Far g w v a) (k : Keeps w w') : Far g w' v a := ⟨h.1.keeps k, h.2⟩
theorem Far.touch {g : Nat} {w w' : World} {v : Value} {a : List Nd} (h : Far g w v a) (k : Touch w w' (fun i => i = g)) : Far g w' v a := by
  obtain ⟨⟨p, cap, rfl, h1, h2, h3, h4⟩, hf⟩ := h
  refine ⟨⟨p, cap, rfl, h1, h2, fun j hj => ?_, h4⟩, hf⟩
  obtain ⟨b, off, hp, hc⟩ := h3 j hj
  subst hp
  exact ⟨b, off, rfl, by rw [(k.cell (World.block_lt_of_cell? _ _ hc) (hf ⟨b, off, none⟩ _ _ rfl)).1]; exact hc⟩
/-- what lies below a block does not lie in it -/
theorem Far.below {g : Nat} {w : World} {t : Fm} {v : Value} (h : Nds w v t.enc) (hg : w.heap.size ≤ g) : Far g w v t.enc := by
  refine ⟨h, fun ad n c e => ?_⟩
  obtain ⟨b, off, n', cap', e', _, _, _, _, hc, _⟩ := h.root
  rw [e'] at e
  cases e
  have := World.block_lt_of_cell? _ _ hc
  simp only at this ⊢
  omega
theorem Far.own {g B : Nat} {w : World} {v u : Value} {n : Nat} {vs : List Value} {a : List Nd} (h : OwnN w B v a) (ho : w.ownsRow B 24 1 u n vs) (hu : u.ownBlock = some g) (hl : a.length ≤ 2147483648) : Far g w v a := by
  refine ⟨h.nds hl, fun ad n c e => ?_⟩
  subst e
  obtain ⟨p, cap, e, _⟩ := At.of_own h
  intro hb
  have h2 : (Value.slice (some ad) n c).ownBlock = some g := by simp [Value.ownBlock, hb]
  exact type_ne ho h tyne hu h2
/-- the row of images: the call's own header, rows that are shared -/
def Row (w : World) (B g cap : Nat) (us : List Value) (σ : List Fm) : Prop :=
  w.ownsRow B 24 1 (.slice (some ⟨g, 0, none⟩) 6 cap) 6 us ∧ us.length = σ.length ∧ ∀ i (h1 : i < us.length) (h2 : i < σ.length), Far g w us[i] σ[i].enc
theorem Row.keeps {w w' : World} {B g cap : Nat} {us : List Value} {σ : List Fm} (h : Row w B g cap us σ) (k : Keeps w w') : Row w' B g cap us σ := ⟨own_keeps h.1 k, h.2.1, fun i h1 h2 => (h.2.2 i h1 h2).keeps k⟩
theorem Row.len {w : World} {B g cap : Nat} {us : List Value} {σ : List Fm} (h : Row w B g cap us σ) : σ.length = 6 := by
  have h1 := h.1.1
  have h2 := h.2.1
  omega
theorem Row.lt {w : World} {B g cap : Nat} {us : List Value} {σ : List Fm} (h : Row w B g cap us σ) : B ≤ g ∧ g < w.heap.size := World.ownsRow.lt h.1 g rfl
theorem Row.ndsL {w : World} {B g cap : Nat} {us : List Value} {σ : List Fm} (h : Row w B g cap us σ) : NdsL w (.slice (some ⟨g, 0, none⟩) 6 cap) (σ.map Fm.enc) := by
  have hl := h.len
  obtain ⟨p, cap', e, h1, h2, hat⟩ := At.of_own h.1
  cases e
  have := ndsL_of (w := w) (xs := σ.map Fm.enc) hat ⟨by rw [List.length_map]; exact h.2.1, fun i h1 h2 => by
    rw [List.getElem_map]; exact (h.2.2 i h1 (by simpa using h2)).1⟩ (by rw [List.length_map, hl]; exact h1) h2 (by rw [List.length_map, hl]; omega)
  rwa [List.length_map, hl] at this
theorem Row.store {w : World} {B g cap : Nat} {us : List Value} {σ : List Fm} (h : Row w B g cap us σ) (i : Nat) (hi : i < 6) {u : Value} {c : Fm} (hu : Far g w u c.enc) :
    (∃ c0, w.cell? ⟨g, i, none⟩ = some c0) ∧ w.frozen? ⟨g, i, none⟩ = false ∧ Row (w.setCell ⟨g, i, none⟩ u) B g cap (us.set i u) (σ.set i c) ∧ Touch w (w.setCell ⟨g, i, none⟩ u) (fun k => k = g) := by
  obtain ⟨ho, hl, hr⟩ := h
  have hst := ho.stored i u
  have hus : us.length = 6 := by have := ho.1; omega
  have ht : Touch w (w.setCell ⟨g, i, none⟩ u) (fun k => k = g) := (Touch.grown hst.2).mono (fun k e => by cases e; rfl)
  refine ⟨⟨us[i], by rw [ho.cellAt i (by omega)]; simp [hus, hi]⟩, ho.frozenAt i, ⟨by have := hst.1; exact this, by simp [hl], fun j h1 h2 => ?_⟩, ht⟩
  by_cases e : i = j
  · subst e; simpa using hu.touch ht
  · rw [List.getElem_set_ne e, List.getElem_set_ne e]
    exact (hr j (by simpa using h1) (by simpa using h2)).touch ht
theorem Keeps.touchG {a w w' : World} {g : Nat} (h : Keeps a w) (k : Touch w w' (fun i => i = g)) (hg : a.heap.size ≤ g) : Keeps a w' := h.touch k (fun i hi => by omega)
/-- what the closure captures -/
structure FEnv (w : World) (bv bh bi bc bf g cap : Nat) (vv vc hf : Value) (fid : FuncId) : Prop where
  cv : w.cell? ⟨bv, 0, none⟩ = some vv
  ch : w.cell? ⟨bh, 0, none⟩ = some hf
  ci : w.cell? ⟨bi, 0, none⟩ = some (.slice (some ⟨g, 0, none⟩) 6 cap)
  cc : w.cell? ⟨bc, 0, none⟩ = some vc
  cf : w.cell? ⟨bf, 0, none⟩ = some (.func (.func fid) #[] #[.pointer (some ⟨bv, 0, none⟩), .pointer (some ⟨bh, 0, none⟩), .pointer (some ⟨bi, 0, none⟩), .pointer (some ⟨bc, 0, none⟩), .pointer (some ⟨bf, 0, none⟩)])
  nv : bv ≠ g
  nh : bh ≠ g
  ni : bi ≠ g
  nc : bc ≠ g
  nf : bf ≠ g
theorem FEnv.touch {w w' : World} {bv bh bi bc bf g cap : Nat} {vv vc hf : Value} {fid : FuncId} (h : FEnv w bv bh bi bc bf g cap vv vc hf fid) (k : Touch w w' (fun i => i = g)) : FEnv w' bv bh bi bc bf g cap vv vc hf fid := by
  have mv : ∀ {b : Nat} {v : Value}, b ≠ g → w.cell? ⟨b, 0, none⟩ = some v → w'.cell? ⟨b, 0, none⟩ = some v := fun hb hc => by
    rw [(k.cell (World.block_lt_of_cell? _ _ hc) hb).1]; exact hc
  exact ⟨mv h.nv h.cv, mv h.nh h.ch, mv h.ni h.ci, mv h.nc h.cc, mv h.nf h.cf, h.nv, h.nh, h.ni, h.nc, h.nf⟩
theorem FEnv.drew {w : World} {bv bh bi bc bf g cap : Nat} {vv vc hf : Value} {fid : FuncId} (h : FEnv w bv bh bi bc bf g cap vv vc hf fid) : FEnv w.drew bv bh bi bc bf g cap vv vc hf fid := ⟨h.cv, h.ch, h.ci, h.cc, h.cf, h.nv, h.nh, h.ni, h.nc, h.nf⟩
/-- how a search from a place on answers -/
def FillSays (P : List Fm → Bool) (cs : List Fm) (vs : List Int) (σ : List Fm) (B g cap : Nat) (w : World) (e : Ending) (w' : World) : Prop :=
  ∃ us' σ', e = .returned (.bool (firstC P cs vs σ).isSome) ∧ Row w' B g cap us' σ' ∧ Touch w w' (fun i => i = g) ∧ (∀ r, firstC P cs vs σ = some r → σ' = r) ∧ Agree vs σ' σ ∧ ∀ x ∈ σ', x ∈ σ ∨ x ∈ cs
/-- what holds at each round of the loop over the candidates -/
def FRel (P : List Fm → Bool) (cs : List Fm) (rest : List Int) (x : Nat) (σ : List Fm) (w : World) (B g cap : Nat) (j : Nat) (wr : World) : Prop :=
  Touch w wr (fun i => i = g) ∧ ∃ us' σ', Row wr B g cap us' σ' ∧ Agree ((x : Int) :: rest) σ' σ ∧ (∀ y ∈ σ', y ∈ idF ∨ y ∈ cs) ∧ (∀ y ∈ σ', y ∈ σ ∨ y ∈ cs) ∧ (∀ t (ht : t < cs.length), t < j → firstC P cs rest (σ.set x cs[t]) = none)
--
theorem enters_fill : Enters 184 := fun _ _ => by kernel_rfl
set_option maxRecDepth 20000 in
set_option maxHeartbeats 4000000 in
theorem fill_any (P : List Fm → Bool) (vs : List Int) (cs : List Fm) (fid : FuncId) (cph : Array Value) (w0 : World) (vv vc : Value) (bv bh bi bc bf g cap : Nat)
    (hvv : Ints w0 vv vs) (hvc : NdsL w0 vc (cs.map Fm.enc)) (hvs : ∀ x ∈ vs, ∃ k : Nat, k < 6 ∧ x = k) (hg : w0.heap.size ≤ g) (hen : Enters fid) (hcl : cs.length ≤ 8) (_hvl : vs.length ≤ 6)
    (hh : ∀ σ v w1, Keeps w0 w1 → NdsL w1 v (σ.map Fm.enc) → σ.length = 6 → (∀ x ∈ σ, x ∈ idF ∨ x ∈ cs) → Calls Tryz.prog fid (#[v] ++ cph) w1 fun e w2 => e = .returned (.bool (P σ)) ∧ Keeps w1 w2) :
    ∀ m k, vs.length = k + m → ∀ w us σ, Keeps w0 w → FEnv w bv bh bi bc bf g cap vv vc (.func (.func fid) #[] cph) 184 → Row w w0.heap.size g cap us σ → (∀ x ∈ σ, x ∈ idF ∨ x ∈ cs) →
      Calls Tryz.prog 184 #[.int .i64 k, .pointer (some ⟨bv, 0, none⟩), .pointer (some ⟨bh, 0, none⟩), .pointer (some ⟨bi, 0, none⟩), .pointer (some ⟨bc, 0, none⟩), .pointer (some ⟨bf, 0, none⟩)] w (FillSays P cs (vs.drop k) σ w0.heap.size g cap w) := by
  intro m
  have HVV := hvv
  obtain ⟨pv, cv, rfl, hlv, hmv, _, _⟩ := hvv
  unfold maxLen at hmv
  obtain ⟨pc, nc, cc, rfl⟩ := NdsL.shapeL hvc
  obtain ⟨hnc, hncc, hmc⟩ := (show nc = (cs.map Fm.enc).length ∧ nc ≤ cc ∧ cc ≤ maxLen by obtain ⟨_, _, e, h1, h2, _⟩ := hvc; cases e; exact ⟨rfl, h1, h2⟩)
  rw [List.length_map] at hnc
  subst hnc
  unfold maxLen at hmc
  have HH := hid hh; clear hh
  have hcf' : ∀ args w, (callFunc fid args).run Tryz.prog w = .ok (.enter fid args) w := hen
  have hcf2 : ∀ args w, (callFunc 184 args).run Tryz.prog w = .ok (.enter 184 args) w := enters_fill
  clear hen
  induction m with
  | zero =>
    intro k hk w us σ kw he hrow hmem
    obtain rfl : k = vs.length := by omega
    clear hk
    have hnd := hrow.ndsL
    have hl := hrow.len
    have HR := hid hrow; clear hrow
    have HP := hid (HH.out σ _ w kw hnd hl hmem)
    obtain ⟨h1, h2, h3, h4, h5, _, _, _, _, _⟩ := he
    have HM := hid hmem; clear hmem hnd
    rw [List.drop_length]
    have hf : Hid ((firstC P cs [] σ).isSome = P σ) := by unfold Hid firstC; cases P σ <;> rfl
    have hfr : Hid (∀ r, firstC P cs [] σ = some r → σ = r) := by
      intro r h; unfold firstC at h; split at h
      · cases h; rfl
      · cases h
    go_enter Tryz.func184, Tryz.ntmps184
    go_wp2_with fail
    refine HP.out.mono ?_; rintro e w2 ⟨rfl, k2⟩
    go_wp2_with fail
    go_ret
    exact ⟨us, σ, ret_bool hf.out.symm, HR.out.keeps k2, Touch.of_keeps k2 _, hfr.out, Agree.refl _ _, fun x hx => .inl hx⟩
  | succ m ih =>
    intro k hk w us σ kw he hrow hmem
    have IH := hid ih; clear ih
    have hkl : k < vs.length := by omega
    have hkl' : ((k : Int) == (vs.length : Int)) = false := by simp; omega
    have hklt' : (k : Int) < vs.length := by omega
    obtain ⟨x, hx6, hx⟩ := hvs vs[k] (List.getElem_mem hkl)
    have hdrop : vs.drop k = (x : Int) :: vs.drop (k + 1) := by rw [List.drop_eq_getElem_cons hkl, hx]
    rw [hdrop]
    have HD := hid hdrop; clear hdrop
    have hnn : ∀ v ∈ vs.drop (k + 1), (0 : Int) ≤ v := fun v hv => by obtain ⟨s, _, rfl⟩ := hvs v (List.mem_of_mem_drop hv); omega
    have HNN := hid hnn; clear hnn
    have HR := hid hrow; clear hrow
    have HM := hid hmem; clear hmem
    have HE := hid he
    obtain ⟨e1, e2, e3, e4, e5, _, _, _, _, _⟩ := he
    have hk3 := hid (show vs.length = (k + 1) + m by omega); clear hk
    generalize hrest : vs.drop (k + 1) = rest at *
    have HRest := hid hrest; clear hrest
    go_enter Tryz.func184, Tryz.ntmps184
    go_wp2_with fail
    clear e1 e2 e3 e4 e5
    go_loopw [7, 19] (fun r i' wr => ∃ j : Nat, j ≤ cs.length ∧ i' = .int .i64 j ∧ r = .bool false ∧ FRel P cs rest x σ w w0.heap.size g cap j wr) (fun _ i _ => cs.length - (intOf i).toNat)
    case atStart => exact ⟨0, by omega, rfl, rfl, Touch.refl _ _, us, σ, HR.out, Agree.refl _ _, HM.out, (fun y hy => .inl hy), (fun t ht h => by omega)⟩
    case round =>
      obtain ⟨j, hj, rfl, rfl, tw, us', σ', hrow, hag, hmem, hmem2, hnone⟩ := hrel
      clear HR
      have HN := hid hnone; clear hnone
      have HA := hid hag; clear hag
      have HM2 := hid hmem2; clear hmem2
      have HMr := hid hmem; clear hmem
      by_cases hlt : j < cs.length
      · have hlt' : (j : Int) < cs.length := by omega
        have kwr := kw.touchG tw hg
        obtain ⟨b1, o1, u1, rfl, hc1, hu1⟩ := (NdsL.keeps hvc kwr).get j (by simpa using hlt)
        rw [List.getElem_map] at hu1
        have hfar : Far g wr u1 cs[j].enc := by
          obtain ⟨_, _, u0, e, hc0, hu0⟩ := hvc.get j (by simpa using hlt)
          cases e
          rw [List.getElem_map] at hu0
          have := kwr.cell hc0
          rw [hc1] at this
          cases this
          exact (Far.below hu0 hg).keeps kwr
        obtain ⟨pu, nu, cu, rfl⟩ := hu1.shape
        obtain ⟨b2, o2, e2', hc2⟩ : ∃ b off, pv = some ⟨b, off, none⟩ ∧ wr.cell? ⟨b, off + k, none⟩ = some (.int .i64 vs[k]) := by
          obtain ⟨_, _, e, _, _, hat, _⟩ := HVV.keeps kwr
          cases e
          exact hat.int k hkl
        subst e2'
        rw [hx] at hc2
        have he := HE.out.touch tw
        obtain ⟨⟨c0, hc0⟩, hfz, hrow2, t2⟩ := (hrow.keeps (Keeps.refl wr).drew).store x hx6 (hfar.keeps (Keeps.refl wr).drew)
        have he2 := he.drew.touch t2
        have hmem3 : ∀ y ∈ σ'.set x cs[j], y ∈ idF ∨ y ∈ cs := fun y hy => by
          rcases List.mem_or_eq_of_mem_set hy with h | h
          · exact HMr.out y h
          · exact .inr (h ▸ List.getElem_mem hlt)
        have hI := IH.out (k + 1) hk3.out _ _ _ ((kwr.drew).touchG t2 hg) he2 hrow2 hmem3
        have hcast : ((k + 1 : Nat) : Int) = (k : Int) + 1 := by omega
        rw [hcast, HRest.out] at hI
        have HI := hid hI
        have hagr := HA.out
        have hfe := firstC_agree P cs rest HNN.out _ _ (hagr.set cs[j] (by omega))
        rw [Int.toNat_natCast] at hfe
        have HFE := hid hfe
        have hx0 : (0 : Int) ≤ x := by omega
        have hx6' : (x : Int) < 6 := by omega
        obtain ⟨e1, e2, e3, e4, e5, n1, n2, n3, n4, n5⟩ := he
        obtain ⟨f1, f2, f3, f4, f5, _, _, _, _, _⟩ := he2
        have TW := hid (tw.trans ((Touch.of_keeps (Keeps.refl wr).drew _).trans t2))
        clear hI hfe hagr hrow2 hrow hmem3 hfar hu1 t2 f1 f2 f3 f4
        have hAg : ∀ σ3 : List Fm, Agree rest σ3 (σ'.set x cs[j]) → Agree ((x : Int) :: rest) σ3 σ := fun σ3 h =>
          ((h.mono (fun y hy => List.mem_cons_of_mem _ hy)).trans (by have := Agree.setL (vs := rest) σ' cs[j] (v := (x : Int)) (by omega); rwa [Int.toNat_natCast] at this)).trans HA.out
        have hMe : ∀ σ3 : List Fm, (∀ y ∈ σ3, y ∈ σ'.set x cs[j] ∨ y ∈ cs) → ∀ y ∈ σ3, y ∈ σ ∨ y ∈ cs := fun σ3 h y hy => by
          rcases h y hy with h1 | h1
          · rcases List.mem_or_eq_of_mem_set h1 with h2 | h2
            · exact HM2.out y h2
            · exact .inr (h2 ▸ List.getElem_mem hlt)
          · exact .inr h1
        have HAG := hid hAg
        have HME := hid hMe
        clear hAg hMe
        go_wp2_with fail
        go_region
        go_wp2_with fail
        refine HI.out.mono ?_; rintro e w3 ⟨us3, σ3, rfl, hrow3, t3, hres3, hag3, hmem3⟩
        have HRES := hid hres3; clear hres3
        have HAG3 := hid (HAG.out σ3 hag3); clear hag3
        have HME3 := hid (HME.out σ3 hmem3); clear hmem3
        have TT := hid (TW.out.trans t3); clear t3
        clear n1 n2 n3 n4 n5 e1 e2 e3 e4 e5 f5 hc0 hfz hc1 hc2
        cases hfr : firstC P cs rest (σ.set x cs[j]) with
        | some r =>
          have hat := hid (firstC_at P cs (x : Int) rest σ r j hlt (fun t ht htj => by have := HN.out t ht htj; rwa [Int.toNat_natCast]) (by rw [Int.toNat_natCast]; exact hfr))
          have hr := hid (HRES.out r (HFE.out.trans hfr))
          have hb : (firstC P cs rest (σ'.set x cs[j])).isSome = true := by rw [HFE.out, hfr]; rfl
          rw [hb]
          clear hfr hb
          go_wp2_with fail
          go_ret
          exact ⟨us3, σ3, ret_bool (by rw [hat.out]; rfl), hrow3, TT.out, (fun r' h => by rw [hat.out] at h; cases h; exact hr.out), HAG3.out, HME3.out⟩
        | none =>
          have hb : (firstC P cs rest (σ'.set x cs[j])).isSome = false := by rw [HFE.out, hfr]; rfl
          rw [hb]
          have hfr' := hid hfr; clear hfr hb
          go_wp2_with fail
          go_roundw
          case rel =>
            refine ⟨j + 1, by omega, by go_num, rfl, TT.out, us3, σ3, hrow3, HAG3.out, ?_, HME3.out, ?_⟩
            · intro y hy
              rcases HME3.out y hy with h | h
              · exact HM.out y h
              · exact .inr h
            · intro t ht htj
              by_cases e : t = j
              · subst e; exact hfr'.out
              · exact HN.out t ht (by omega)
          case measure => simp [intOf]; omega
      · obtain rfl : j = cs.length := by omega
        have hlt' : ¬ (cs.length : Int) < cs.length := by omega
        have hfn := hid (firstC_end P cs (x : Int) rest σ (fun t ht => by have := HN.out t ht ht; rwa [Int.toNat_natCast]))
        go_wp2_with fail
        go_ret
        exact ⟨us', σ', ret_bool (by rw [hfn.out]; rfl), hrow, tw, (fun r h => by rw [hfn.out] at h; cases h), HA.out, HM2.out⟩
end Go.Proofs.YtodeecmhcfbheaaGreat
/- The program's firstCandidate: the first candidate substitution for which a condition holds. (printed by mkzd.py) -/
namespace Go.Proofs.YtodeecmhcfbheaaGreat
open Go.RowKit
--
set_option maxRecDepth 20000 in
set_option maxHeartbeats 4000000 in
theorem firstCandidate_any (P : List Fm → Bool) (vs : List Int) (cs : List Fm) (fid : FuncId) (cph : Array Value) (w : World) (vv vc : Value)
    (hvv : Ints w vv vs) (hvc : NdsL w vc (cs.map Fm.enc)) (hvs : ∀ x ∈ vs, ∃ k : Nat, k < 6 ∧ x = k) (hen : Enters fid) (hcl : cs.length ≤ 8) (hvl : vs.length ≤ 6) (hc40 : ∀ c ∈ cs, c.enc.length ≤ 40)
    (hh : ∀ σ v w1, Keeps w w1 → NdsL w1 v (σ.map Fm.enc) → σ.length = 6 → (∀ x ∈ σ, x ∈ idF ∨ x ∈ cs) → Calls Tryz.prog fid (#[v] ++ cph) w1 fun e w2 => e = .returned (.bool (P σ)) ∧ Keeps w1 w2) :
    Calls Tryz.prog 102 #[vv, vc, .func (.func fid) #[] cph] w fun e w' => ∃ u, e = .returned (.tuple #[u, .int .i64 (if (firstC P cs vs idF).isSome then 0 else 4)]) ∧ OwnL w' w.heap.size u (((firstC P cs vs idF).getD []).map Fm.enc) ∧ Keeps w w' := by
  have hvv0 := hvv
  obtain ⟨pv, cv, rfl, hlv, hmv, _, _⟩ := hvv
  obtain ⟨pc, nc, cc, rfl⟩ := NdsL.shapeL hvc
  have HF := hid (fun g (hg : w.heap.size ≤ g) bv bh bi bc bf cap => fill_any P vs cs fid cph w _ _ bv bh bi bc bf g cap hvv0 hvc hvs hg hen hcl hvl hh vs.length 0 (by omega))
  have HC40 := hid hc40; clear hc40
  clear hh hvs hen
  cases hfc : firstC P cs vs idF with
  | none =>
    simp only [Option.isSome_none, Bool.false_eq_true, if_false, Option.getD_none, List.map_nil]
    have k3 : Keeps w (((w.alloc (.cells #[.slice pv vs.length cv] 114)).alloc (.cells #[.slice pc nc cc] 35)).alloc (.cells #[.func (.func fid) #[] cph] 107)) := ((Keeps.refl w).alloc _).alloc _ |>.alloc _
    have cV : (((w.alloc (.cells #[.slice pv vs.length cv] 114)).alloc (.cells #[.slice pc nc cc] 35)).alloc (.cells #[.func (.func fid) #[] cph] 107)).cell? ⟨w.heap.size, 0, none⟩ = some (.slice pv vs.length cv) := by rw [World.cell?_alloc_lt (h := by simp; omega), World.cell?_alloc_lt (h := by simp)]; simp
    have cC : (((w.alloc (.cells #[.slice pv vs.length cv] 114)).alloc (.cells #[.slice pc nc cc] 35)).alloc (.cells #[.func (.func fid) #[] cph] 107)).cell? ⟨w.heap.size + 1, 0, none⟩ = some (.slice pc nc cc) := by rw [World.cell?_alloc_lt (h := by simp)]; exact cell_newN (by simp)
    have cH : (((w.alloc (.cells #[.slice pv vs.length cv] 114)).alloc (.cells #[.slice pc nc cc] 35)).alloc (.cells #[.func (.func fid) #[] cph] 107)).cell? ⟨w.heap.size + 1 + 1, 0, none⟩ = some (.func (.func fid) #[] cph) := cell_newN (by simp)
    have hs3 : (((w.alloc (.cells #[.slice pv vs.length cv] 114)).alloc (.cells #[.slice pc nc cc] 35)).alloc (.cells #[.func (.func fid) #[] cph] 107)).heap.size = w.heap.size + 3 := by simp
    have hst : ∀ (a : Addr) (f : Fn) (b c : Array Value) (m : Mode) (w' : World), (store a (.func f b c) m).run Tryz.prog w' = stored Tryz.prog w' a (.func f b c) m := fun a f b c m w' => run_store _ w' a _ m rfl
    have hcf2 : ∀ args w, (callFunc 184 args).run Tryz.prog w = .ok (.enter 184 args) w := enters_fill
    go_enter Tryz.func102, Tryz.ntmps102
    go_wp2_with fail
    refine (identity_any _).mono ?_; rintro e w1 ⟨vI, rfl, hI, kI⟩
    obtain ⟨g, cap, rfl, hg0, hg1⟩ := hI.shape (by rw [idL_len]; omega)
    rw [idL_len] at hI ⊢
    have hgw : w.heap.size ≤ g := by omega
    have hrow1 : ∃ us, Row w1 w.heap.size g cap us idF := by
      obtain ⟨us, ho, hr, _, _⟩ := hI
      refine ⟨us, own_mono ho (by omega), by rw [hr.1]; rfl, fun i h1 h2 => ?_⟩
      have h3 := hr.2 i h1 (by rw [← hr.1]; exact h1)
      have := Far.own h3 ho (g := g) rfl (by simp [idF_enc, idF] at h2 ⊢; rcases h2 with _; (have : i = 0 ∨ i = 1 ∨ i = 2 ∨ i = 3 ∨ i = 4 ∨ i = 5 := by omega); rcases this with rfl | rfl | rfl | rfl | rfl | rfl <;> simp [Fm.enc])
      simpa [idF_enc] using this
    obtain ⟨us, hrow1⟩ := hrow1
    have k2 : Keeps w1 ((w1.alloc (.cells #[.slice (some ⟨g, 0, none⟩) 6 cap] 35)).alloc (.cells #[(.func (.func 184) #[] #[.pointer (some ⟨w.heap.size, 0, none⟩), .pointer (some ⟨w.heap.size + 1 + 1, 0, none⟩), .pointer (some ⟨w1.heap.size, 0, none⟩), .pointer (some ⟨w.heap.size + 1, 0, none⟩), .pointer (some ⟨w1.heap.size + 1, 0, none⟩)])] 161)) := ((Keeps.refl w1).alloc _).alloc _
    have hFE : FEnv ((w1.alloc (.cells #[.slice (some ⟨g, 0, none⟩) 6 cap] 35)).alloc (.cells #[(.func (.func 184) #[] #[.pointer (some ⟨w.heap.size, 0, none⟩), .pointer (some ⟨w.heap.size + 1 + 1, 0, none⟩), .pointer (some ⟨w1.heap.size, 0, none⟩), .pointer (some ⟨w.heap.size + 1, 0, none⟩), .pointer (some ⟨w1.heap.size + 1, 0, none⟩)])] 161)) w.heap.size (w.heap.size + 1 + 1) w1.heap.size (w.heap.size + 1) (w1.heap.size + 1) g cap (.slice pv vs.length cv) (.slice pc nc cc) (.func (.func fid) #[] cph) 184 :=
      ⟨k2.cell (kI.cell cV), k2.cell (kI.cell cH), by rw [World.cell?_alloc_lt (h := by simp)]; exact cell_newN rfl, k2.cell (kI.cell cC), cell_newN (by simp), by omega, by omega, by omega, by omega, by omega⟩
    have hF : Calls Tryz.prog 184 #[.int .i64 0, .pointer (some ⟨w.heap.size, 0, none⟩), .pointer (some ⟨w.heap.size + 1 + 1, 0, none⟩), .pointer (some ⟨w1.heap.size, 0, none⟩), .pointer (some ⟨w.heap.size + 1, 0, none⟩), .pointer (some ⟨w1.heap.size + 1, 0, none⟩)] ((w1.alloc (.cells #[.slice (some ⟨g, 0, none⟩) 6 cap] 35)).alloc (.cells #[(.func (.func 184) #[] #[.pointer (some ⟨w.heap.size, 0, none⟩), .pointer (some ⟨w.heap.size + 1 + 1, 0, none⟩), .pointer (some ⟨w1.heap.size, 0, none⟩), .pointer (some ⟨w.heap.size + 1, 0, none⟩), .pointer (some ⟨w1.heap.size + 1, 0, none⟩)])] 161)) (FillSays P cs vs idF w.heap.size g cap ((w1.alloc (.cells #[.slice (some ⟨g, 0, none⟩) 6 cap] 35)).alloc (.cells #[(.func (.func 184) #[] #[.pointer (some ⟨w.heap.size, 0, none⟩), .pointer (some ⟨w.heap.size + 1 + 1, 0, none⟩), .pointer (some ⟨w1.heap.size, 0, none⟩), .pointer (some ⟨w.heap.size + 1, 0, none⟩), .pointer (some ⟨w1.heap.size + 1, 0, none⟩)])] 161))) :=
      HF.out g hgw _ _ _ _ _ cap _ us idF ((k3.trans kI).trans k2) hFE (hrow1.keeps k2) (fun x hx => .inl hx)
    have HFF := hid hF; clear hF HF
    have HFE := hid hFE; clear hFE
    clear cV cC cH hI hrow1
    have k02 := (k3.trans kI).trans k2
    go_wp2_with fail
    refine HFF.out.mono ?_; rintro e w3 ⟨us3, σ3, rfl, hrow3, t3, hres, _, _⟩
    have k03 := k02.touchG t3 hgw
    have HE3 := hid (HFE.out.touch t3)
    rw [hfc]
    have hb : ((none : Option (List Fm)).isSome) = false := rfl
    rw [hb]
    clear hb hfc hres
    go_wp2_with fail
    go_ret2
    exact ⟨_, rfl, OwnL.nil _ _, k03⟩
  | some r =>
    simp only [Option.isSome_some, if_true, Option.getD_some]
    have k3 : Keeps w (((w.alloc (.cells #[.slice pv vs.length cv] 114)).alloc (.cells #[.slice pc nc cc] 35)).alloc (.cells #[.func (.func fid) #[] cph] 107)) := ((Keeps.refl w).alloc _).alloc _ |>.alloc _
    have cV : (((w.alloc (.cells #[.slice pv vs.length cv] 114)).alloc (.cells #[.slice pc nc cc] 35)).alloc (.cells #[.func (.func fid) #[] cph] 107)).cell? ⟨w.heap.size, 0, none⟩ = some (.slice pv vs.length cv) := by rw [World.cell?_alloc_lt (h := by simp; omega), World.cell?_alloc_lt (h := by simp)]; simp
    have cC : (((w.alloc (.cells #[.slice pv vs.length cv] 114)).alloc (.cells #[.slice pc nc cc] 35)).alloc (.cells #[.func (.func fid) #[] cph] 107)).cell? ⟨w.heap.size + 1, 0, none⟩ = some (.slice pc nc cc) := by rw [World.cell?_alloc_lt (h := by simp)]; exact cell_newN (by simp)
    have cH : (((w.alloc (.cells #[.slice pv vs.length cv] 114)).alloc (.cells #[.slice pc nc cc] 35)).alloc (.cells #[.func (.func fid) #[] cph] 107)).cell? ⟨w.heap.size + 1 + 1, 0, none⟩ = some (.func (.func fid) #[] cph) := cell_newN (by simp)
    have hs3 : (((w.alloc (.cells #[.slice pv vs.length cv] 114)).alloc (.cells #[.slice pc nc cc] 35)).alloc (.cells #[.func (.func fid) #[] cph] 107)).heap.size = w.heap.size + 3 := by simp
    have hst : ∀ (a : Addr) (f : Fn) (b c : Array Value) (m : Mode) (w' : World), (store a (.func f b c) m).run Tryz.prog w' = stored Tryz.prog w' a (.func f b c) m := fun a f b c m w' => run_store _ w' a _ m rfl
    have hcf2 : ∀ args w, (callFunc 184 args).run Tryz.prog w = .ok (.enter 184 args) w := enters_fill
    go_enter Tryz.func102, Tryz.ntmps102
    go_wp2_with fail
    refine (identity_any _).mono ?_; rintro e w1 ⟨vI, rfl, hI, kI⟩
    obtain ⟨g, cap, rfl, hg0, hg1⟩ := hI.shape (by rw [idL_len]; omega)
    rw [idL_len] at hI ⊢
    have hgw : w.heap.size ≤ g := by omega
    have hrow1 : ∃ us, Row w1 w.heap.size g cap us idF := by
      obtain ⟨us, ho, hr, _, _⟩ := hI
      refine ⟨us, own_mono ho (by omega), by rw [hr.1]; rfl, fun i h1 h2 => ?_⟩
      have h3 := hr.2 i h1 (by rw [← hr.1]; exact h1)
      have := Far.own h3 ho (g := g) rfl (by simp [idF_enc, idF] at h2 ⊢; rcases h2 with _; (have : i = 0 ∨ i = 1 ∨ i = 2 ∨ i = 3 ∨ i = 4 ∨ i = 5 := by omega); rcases this with rfl | rfl | rfl | rfl | rfl | rfl <;> simp [Fm.enc])
      simpa [idF_enc] using this
    obtain ⟨us, hrow1⟩ := hrow1
    have k2 : Keeps w1 ((w1.alloc (.cells #[.slice (some ⟨g, 0, none⟩) 6 cap] 35)).alloc (.cells #[(.func (.func 184) #[] #[.pointer (some ⟨w.heap.size, 0, none⟩), .pointer (some ⟨w.heap.size + 1 + 1, 0, none⟩), .pointer (some ⟨w1.heap.size, 0, none⟩), .pointer (some ⟨w.heap.size + 1, 0, none⟩), .pointer (some ⟨w1.heap.size + 1, 0, none⟩)])] 161)) := ((Keeps.refl w1).alloc _).alloc _
    have hFE : FEnv ((w1.alloc (.cells #[.slice (some ⟨g, 0, none⟩) 6 cap] 35)).alloc (.cells #[(.func (.func 184) #[] #[.pointer (some ⟨w.heap.size, 0, none⟩), .pointer (some ⟨w.heap.size + 1 + 1, 0, none⟩), .pointer (some ⟨w1.heap.size, 0, none⟩), .pointer (some ⟨w.heap.size + 1, 0, none⟩), .pointer (some ⟨w1.heap.size + 1, 0, none⟩)])] 161)) w.heap.size (w.heap.size + 1 + 1) w1.heap.size (w.heap.size + 1) (w1.heap.size + 1) g cap (.slice pv vs.length cv) (.slice pc nc cc) (.func (.func fid) #[] cph) 184 :=
      ⟨k2.cell (kI.cell cV), k2.cell (kI.cell cH), by rw [World.cell?_alloc_lt (h := by simp)]; exact cell_newN rfl, k2.cell (kI.cell cC), cell_newN (by simp), by omega, by omega, by omega, by omega, by omega⟩
    have hF : Calls Tryz.prog 184 #[.int .i64 0, .pointer (some ⟨w.heap.size, 0, none⟩), .pointer (some ⟨w.heap.size + 1 + 1, 0, none⟩), .pointer (some ⟨w1.heap.size, 0, none⟩), .pointer (some ⟨w.heap.size + 1, 0, none⟩), .pointer (some ⟨w1.heap.size + 1, 0, none⟩)] ((w1.alloc (.cells #[.slice (some ⟨g, 0, none⟩) 6 cap] 35)).alloc (.cells #[(.func (.func 184) #[] #[.pointer (some ⟨w.heap.size, 0, none⟩), .pointer (some ⟨w.heap.size + 1 + 1, 0, none⟩), .pointer (some ⟨w1.heap.size, 0, none⟩), .pointer (some ⟨w.heap.size + 1, 0, none⟩), .pointer (some ⟨w1.heap.size + 1, 0, none⟩)])] 161)) (FillSays P cs vs idF w.heap.size g cap ((w1.alloc (.cells #[.slice (some ⟨g, 0, none⟩) 6 cap] 35)).alloc (.cells #[(.func (.func 184) #[] #[.pointer (some ⟨w.heap.size, 0, none⟩), .pointer (some ⟨w.heap.size + 1 + 1, 0, none⟩), .pointer (some ⟨w1.heap.size, 0, none⟩), .pointer (some ⟨w.heap.size + 1, 0, none⟩), .pointer (some ⟨w1.heap.size + 1, 0, none⟩)])] 161))) :=
      HF.out g hgw _ _ _ _ _ cap _ us idF ((k3.trans kI).trans k2) hFE (hrow1.keeps k2) (fun x hx => .inl hx)
    have HFF := hid hF; clear hF HF
    have HFE := hid hFE; clear hFE
    clear cV cC cH hI hrow1
    have k02 := (k3.trans kI).trans k2
    go_wp2_with fail
    refine HFF.out.mono ?_; rintro e w3 ⟨us3, σ3, rfl, hrow3, t3, hres, _, _⟩
    have k03 := k02.touchG t3 hgw
    have HE3 := hid (HFE.out.touch t3)
    obtain rfl := hres r hfc
    rw [hfc]
    have hb : ((some σ3 : Option (List Fm)).isSome) = true := rfl
    rw [hb]
    have hmem := (show ∀ x ∈ σ3, x ∈ idF ∨ x ∈ cs from fun x hx => firstC_mem P cs vs idF σ3 hfc x hx)
    have hl6 := hrow3.len
    have h40 : ∀ x ∈ σ3, x.enc.length ≤ 40 := fun x hx => by
      rcases hmem x hx with h | h
      · simp [idF] at h; rcases h with rfl | rfl | rfl | rfl | rfl | rfl <;> simp [Fm.enc]
      · exact HC40.out x h
    have H40 := hid h40
    clear hb hfc hres hmem h40
    have hci := HE3.out.ci
    have HR3 := hid hrow3; clear hrow3
    clear hst hcf2
    go_wp2_with fail
    clear hci
    go_loopw [10, 20] (fun o i' wr => ∃ k : Nat, k ≤ 6 ∧ i' = .int .i64 k ∧ OwnL wr w3.heap.size o ((σ3.take k).map Fm.enc) ∧ Keeps w3 wr) (fun _ i _ => 6 - (intOf i).toNat)
    case atStart => exact ⟨0, by omega, rfl, OwnL.nil _ _, Keeps.refl w3⟩
    case round =>
      obtain ⟨k, hk, rfl, hown, kw⟩ := hrel
      have hsz := kw.size
      by_cases hlt : k < 6
      · have hlt' : (k : Int) < 6 := by omega
        have hkl : k < σ3.length := by omega
        obtain ⟨b1, o1, u1, e1, hc1, hu1⟩ := (HR3.out.keeps kw).ndsL.get k (by simpa using hkl)
        cases e1
        rw [Nat.zero_add] at hc1
        rw [List.getElem_map] at hu1
        have h40 := H40.out _ (List.getElem_mem hkl)
        obtain ⟨pu, nu, cu, rfl⟩ := hu1.shape
        have HCL := hid (clone_any _ _ wr hu1 (Fm.enc_pos _) (by omega))
        have htk := hid (show σ3.take (k + 1) = σ3.take k ++ [σ3[k]] from List.take_succ_eq_append_getElem hkl)
        have hll : ((σ3.take k).map Fm.enc).length = k := by simp; omega
        clear hu1 h40
        go_wp2_with fail
        refine HCL.out.mono ?_; rintro e w4 ⟨v4, rfl, hv4, k4⟩
        obtain ⟨p2, n2, c2, rfl⟩ : ∃ p n c, v4 = .slice p n c := by obtain ⟨p, c, e, _⟩ := At.of_own hv4; exact ⟨p, _, c, e⟩
        have k5 := k4.alloc (.cells #[.slice p2 n2 c2] 24)
        have hv5 := hv4.keeps ((Keeps.refl w4).alloc (.cells #[.slice p2 n2 c2] 24))
        have hat := At.lit1 w4 (.slice p2 n2 c2) 24
        go_wp2_with (at_builtin; refine appL rfl _ _ rfl w3.heap.size _ ((σ3.take k).map Fm.enc) rfl wr hown k5 _ _ hv5 hsz _ _ rfl hat (by omega) ?_; intro v6 w6 hv6 hg6 hr6; have k6 : Keeps w3 w6 := (kw.trans k5).grown hg6 hr6)
        go_roundw
        case rel => exact ⟨k + 1, by omega, by go_num, by rw [htk.out, List.map_append]; exact hv6, k6⟩
        case measure => simp [intOf]; omega
      · obtain rfl : k = 6 := by omega
        go_wp2
        go_ret2
        rw [List.take_of_length_le (by omega)] at hown
        exact ⟨_, rfl, hown.mono k03.size, k03.trans kw⟩
end Go.Proofs.YtodeecmhcfbheaaGreat
/- The reference's counting and choosing of candidate substitutions; errors of two lists. -/
namespace Go.Proofs.YtodeecmhcfbheaaGreat
open Go.RowKit
--
set_option maxRecDepth 20000 in
set_option maxHeartbeats 1000000 in
theorem l31Count_any (vs : List Int) (cs : List (List Nd)) (v u : Value) (w : World) (hv : Ints w v vs) (hu : NdsL w u cs) (h6 : vs.length ≤ 6) (h8 : cs.length ≤ 8) :
    Calls Tryz.prog 187 #[v, u] w fun e w' => e = .returned (.int .i64 (cap601 cs.length vs.length : Nat)) ∧ w = w' := by
  obtain ⟨p, cap, rfl, hle, hmx, hx1, hx2⟩ := hv
  obtain ⟨q, dap, rfl, hle2, hmx2, hx3, hx4⟩ := hu
  unfold maxLen at hmx hmx2
  clear hx1 hx2 hx3 hx4
  generalize hm : cs.length = m at *
  generalize hn : vs.length = n at *
  go_enter Tryz.func187, Tryz.ntmps187
  go_wp2
  go_loop [5, 6] (fun c i' => ∃ k : Nat, k ≤ n ∧ i' = .int .i64 k ∧ c = .int .i64 (cap601 m k : Nat)) (fun _ i => n - (intOf i).toNat)
  case atStart => exact ⟨0, by omega, rfl, rfl⟩
  case round =>
    obtain ⟨k, hk, rfl, rfl⟩ := hrel
    by_cases hlt : k < n
    · have hlt' : (k : Int) < n := by omega
      have hc := cap601_eq m k
      have hs : cap601 m (k + 1) = min (cap601 m k * m) 601 := rfl
      have hc1 : cap601 m k ≤ 601 := by omega
      have hmul : cap601 m k * m ≤ 601 * 8 := Nat.mul_le_mul hc1 h8
      have HS := hid hs; clear hs hc
      generalize cap601 m k = c at *
      have hcm : (c : Int) * (m : Int) = ((c * m : Nat) : Int) := by push_cast; rfl
      have hmin : min ((c : Int) * (m : Int)) 601 = ((min (c * m) 601 : Nat) : Int) := by rw [hcm]; omega
      have hb0 : 0 ≤ (c : Int) * (m : Int) := by rw [hcm]; omega
      have hb1 : (c : Int) * (m : Int) ≤ 4808 := by rw [hcm]; omega
      have HMIN := hid hmin; clear hmin hcm
      go_wp2
      go_round
      case rel => exact ⟨k + 1, by omega, by go_num, by rw [HS.out, ← HMIN.out]⟩
      case measure => simp [intOf]; omega
    · obtain rfl : k = n := by omega
      have hlt' : ¬ (k : Int) < k := by omega
      go_wp2
      go_ret
      exact ⟨rfl, rfl⟩
/-- the first error of two in the order of invalid ones and those that are not plain -/
def bothE (x y : Int) : Int := if x = 1 ∨ y = 1 then 1 else max x y
theorem bothE_app (l m : List (List Nd)) : bothE (plainErrs l) (plainErrs m) = plainErrs (l ++ m) := by
  unfold bothE plainErrs allFm allPlainL
  rw [List.any_append, List.any_append]
  cases l.any (fun x => !isFm x) <;> cases m.any (fun x => !isFm x) <;> cases l.any (fun x => !plainL x) <;> cases m.any (fun x => !plainL x) <;> simp <;> decide
theorem plainErrs_comm (l m : List (List Nd)) : plainErrs (l ++ m) = plainErrs (m ++ l) := by
  unfold plainErrs allFm allPlainL
  rw [List.any_append, List.any_append, List.any_append, List.any_append, Bool.or_comm, Bool.or_comm (l.any fun x => !plainL x)]
--
set_option maxRecDepth 20000 in
theorem l31Both_two (x y : Int) (w : World) (hx : x = 0 ∨ x = 1 ∨ x = 5) (hy : y = 0 ∨ y = 1 ∨ y = 5) : Calls Tryz.prog 83 #[.int .i64 x, .int .i64 y] w fun e w' => e = .returned (.int .i64 (bothE x y)) ∧ w = w' := by
  rcases hx with rfl | rfl | rfl <;> rcases hy with rfl | rfl | rfl
  all_goals
    go_enter Tryz.func83, Tryz.ntmps83
    go_wp2
    go_ret
    exact ⟨rfl, rfl⟩
--
set_option maxRecDepth 20000 in
set_option maxHeartbeats 4000000 in
theorem l31Choice_any (vs : List Int) (cs : List Fm) (n0 : Nat) (v u : Value) (w : World) (hv : Ints w v vs) (hu : NdsL w u (cs.map Fm.enc)) (hvs : ∀ x ∈ vs, ∃ k : Nat, k < 6 ∧ x = k) (hvl : vs.length ≤ 6) (hc8 : cs.length ≤ 8)
    (hcp : 0 < vs.length → 0 < cs.length) (hn : n0 ≤ 1000) (hcl : ∀ c ∈ cs, c.enc.length ≤ 40) : Calls Tryz.prog 188 #[v, u, .int .i64 n0] w (RetL w ((pickC cs vs.reverse n0 idF).map Fm.enc)) := by
  have hv0 := hv
  obtain ⟨pv, cv, rfl, hlv, hmv, _, _⟩ := hv
  obtain ⟨pc, nc, cc, rfl⟩ := NdsL.shapeL hu
  obtain ⟨hnc, hncc, hmc⟩ : nc = (cs.map Fm.enc).length ∧ nc ≤ cc ∧ cc ≤ maxLen := by obtain ⟨_, _, e, h1, h2, _⟩ := hu; cases e; exact ⟨rfl, h1, h2⟩
  rw [List.length_map] at hnc
  subst hnc
  unfold maxLen at hmv hmc
  have HV := hid hvs; clear hvs
  have HC := hid hcl; clear hcl
  have HP := hid hcp; clear hcp
  go_enter Tryz.func188, Tryz.ntmps188
  go_wp2_with fail
  refine (l03Self_any w).mono ?_; rintro e w1 ⟨vI, rfl, hI, kI⟩
  obtain ⟨g, cap, rfl, hg0, hg1⟩ := hI.shape (by rw [idL_len]; omega)
  rw [idL_len] at hI ⊢
  rw [idF_enc] at hI
  go_wp2_with fail
  go_loopw [2, 9] (fun n' i' wr => ∃ (t num : Nat) (σ : List Fm), t ≤ vs.length ∧ i' = .int .i64 ((vs.length : Int) - 1 - t) ∧ n' = .int .i64 num ∧ num ≤ 1000 ∧ σ.length = 6 ∧ OwnL wr w.heap.size (.slice (some ⟨g, 0, none⟩) 6 cap) (σ.map Fm.enc) ∧ Hid (pickC cs (vs.reverse.drop t) num σ = pickC cs vs.reverse n0 idF) ∧ Keeps w wr) (fun _ i _ => (intOf i + 1).toNat)
  case atStart => exact ⟨0, n0, idF, by omega, by first | rfl | go_num, rfl, hn, rfl, hI, rfl, kI⟩
  case round =>
    obtain ⟨t, num, σ, ht, rfl, rfl, hnum, hσ, hI, hpk, kw⟩ := hrel
    by_cases hlt : t < vs.length
    · obtain ⟨q, hq⟩ : ∃ q : Nat, q = vs.length - 1 - t := ⟨_, rfl⟩
      have hqi : (vs.length : Int) - 1 - t = (q : Int) := by omega
      have hql : q < vs.length := by omega
      have hqt : q + t + 1 = vs.length := by omega
      have hql' : (q : Int) < vs.length := by omega
      have hq0 : (0 : Int) ≤ q := by omega
      have hcpos := HP.out (by omega)
      have hr : num % cs.length < cs.length := Nat.mod_lt _ hcpos
      obtain ⟨x, hx6, hx⟩ := HV.out vs[q] (List.getElem_mem hql)
      have hdrop : vs.reverse.drop t = (x : Int) :: vs.reverse.drop (t + 1) := by
        rw [List.drop_eq_getElem_cons (by simpa using hlt), List.getElem_reverse, ← hx]
        simp only [hq]
      have hpk2 : pickC cs (vs.reverse.drop (t + 1)) (num / cs.length) (σ.set x cs[num % cs.length]) = pickC cs vs.reverse n0 idF := by
        rw [← hpk, hdrop]
        simp only [pickC, List.getElem?_eq_getElem hr, Int.toNat_natCast]
      have HPK := hid hpk2; clear hpk hpk2 hdrop
      obtain ⟨b1, o1, e1, hc1⟩ : ∃ b off, pv = some ⟨b, off, none⟩ ∧ wr.cell? ⟨b, off + q, none⟩ = some (.int .i64 vs[q]) := by
        obtain ⟨_, _, e, _, _, hat, _⟩ := hv0.keeps kw
        cases e
        exact hat.int q hql
      subst e1
      rw [hx] at hc1
      obtain ⟨b2, o2, u2, rfl, hc2, hu2⟩ := (hu.keeps kw).get (num % cs.length) (by simpa using hr)
      rw [List.getElem_map] at hu2
      obtain ⟨pu, nu, cu, rfl⟩ := hu2.shape
      have kd := (Keeps.refl wr).drew
      have hcd1 := kd.cell hc1
      have hcd2 := kd.cell hc2
      have hlen40 := HC.out cs[num % cs.length] (List.getElem_mem hr)
      have HO := hid (l02Own_any cs[num % cs.length].enc _ _ (hu2.keeps kd) (by omega))
      have hw0 := kw.size
      have hlm : (σ.map Fm.enc).length = 6 := by rw [List.length_map, hσ]
      have hx0 : (0 : Int) ≤ x := by omega
      have hx6' : (x : Int) < 6 := by omega
      have hmod : Int.tmod (num : Int) (cs.length : Int) = ((num % cs.length : Nat) : Int) := by rw [Int.tmod_eq_emod_of_nonneg (by omega)]; rfl
      have hdiv : Int.tdiv (num : Int) (cs.length : Int) = ((num / cs.length : Nat) : Int) := by rw [Int.tdiv_eq_ediv_of_nonneg (by omega)]; rfl
      have hr' : ((num % cs.length : Nat) : Int) < cs.length := by omega
      have hr0 : (0 : Int) ≤ ((num % cs.length : Nat) : Int) := by omega
      have hr2 : (num : Int) % (cs.length : Int) < cs.length := Int.emod_lt_of_pos _ (by omega)
      have hr3 : 0 ≤ (num : Int) % (cs.length : Int) := Int.emod_nonneg _ (by omega)
      have htn : ((num : Int) % (cs.length : Int)).toNat = num % cs.length := rfl
      have hcz : ¬ cs = [] := by intro e; rw [e] at hcpos; simp at hcpos
      have hw64 : wrap64 ((num : Int) / (cs.length : Int)) = ((num / cs.length : Nat) : Int) := by
        have h1 : (num : Int) / (cs.length : Int) = ((num / cs.length : Nat) : Int) := rfl
        have h2 : num / cs.length ≤ 1000 := Nat.le_trans (Nat.div_le_self _ _) hnum
        rw [h1]; generalize num / cs.length = dd at h2 ⊢; unfold wrap64; omega
      have HW64 := hid hw64; clear hw64
      have hdl : num / cs.length ≤ 1000 := Nat.le_trans (Nat.div_le_self _ _) hnum
      have hblk : b1 < w.heap.size := by
        obtain ⟨_, _, e, _, _, hat, _⟩ := hv0
        cases e
        obtain ⟨_, _, e, hh⟩ := hat.int q hql
        cases e
        exact World.block_lt_of_cell? _ _ hh
      have hblk2 : b2 < w.heap.size := by
        obtain ⟨_, _, _, e, hh, _⟩ := hu.get (num % cs.length) (by simpa using hr)
        cases e
        exact World.block_lt_of_cell? _ _ hh
      rw [hqi]
      clear hqi hx hq hu2
      have hne : ∀ (b : Nat), b < w.heap.size → some b ≠ some g := fun b hb e => by cases e; omega
      have hb1 := hne b1 hblk
      have hb2 := hne b2 hblk2
      clear hne
      go_wp2_with fail
      go_region_held3 (fun w' => w'.cell? ⟨b1, o1 + q, none⟩ = some (.int .i64 x) ∧ w'.cell? ⟨b2, o2 + num % cs.length, none⟩ = some (.slice pu nu cu)) (first | exact ⟨hcd1, hcd2⟩ | exact ⟨he1, he2⟩ | exact ⟨hf1, hf2⟩) (first
        | (go_at_call 226; refine HO.out.mono ?_; rintro e w5 ⟨v5, rfl, hv5, k5⟩; have he1 := k5.cell hcd1; have he2 := k5.cell hcd2; have k45 := kd.trans k5; obtain ⟨g', cap', c5, e5, hg2, hg3, hcg5, hf5, hI5, gr5⟩ := hI.store k45 (hv5.mono (by simp)) hw0 x (by rw [hlm]; omega); rw [hlm] at e5; cases e5; obtain ⟨p5, n5, q5, rfl⟩ : ∃ p n c, v5 = .slice p n c := (by obtain ⟨p, c, e, _⟩ := At.of_own hv5; exact ⟨p, _, c, e⟩); have hf1 := World.grownBy.cell gr5 he1 hb1; have hf2 := World.grownBy.cell gr5 he2 hb2))
      go_wp2_with fail
      go_roundw
      case rel =>
        refine ⟨t + 1, num / cs.length, σ.set x cs[num % cs.length], by omega, by go_num, by first | rfl | (rw [HW64.out]), hdl, by simp [hσ], ?_, HPK.out, (kw.trans k45).grown gr5 (fun j hj => by cases hj; exact hg2)⟩
        rw [List.map_set]; exact hI5
      case measure => (simp [intOf]; try omega)
    · obtain rfl : t = vs.length := by omega
      have hneg : (vs.length : Int) - 1 - vs.length = -1 := by omega
      rw [hneg]
      have hp := hpk
      rw [List.drop_eq_nil_of_le (by simp)] at hp
      have hp2 := hid (show σ = pickC cs vs.reverse n0 idF from hp)
      go_wp2_with fail
      go_ret
      exact ⟨_, rfl, by rw [← hp2.out]; exact hI, kw⟩
end Go.Proofs.YtodeecmhcfbheaaGreat
/- FindUnifier and FindBreaking: what is asked of a substitution; the program's closures; candidateCode. -/
namespace Go.Proofs.YtodeecmhcfbheaaGreat
open Go.RowKit
/-- the image of a formula -/
def sg (σ : List Fm) (t : Fm) : Fm := subF (fun i => σ.getD i .fls) t
theorem sub_sg (σ : List Fm) (h6 : σ.length = 6) : ∀ t : Fm, OkF t → sub (σ.map Fm.enc) t.enc = (sg σ t).enc := by
  intro t
  induction t with
  | var i =>
    intro ht
    have hi : i < σ.length := by have : i < 6 := ht.1; omega
    simp [Fm.enc, sub, subN, sg, subF, List.getD_eq_getElem?_getD, hi]
  | fls => intro _; rfl
  | and x y hx hy =>
    intro ht
    have h1 := hx (OkF.and ht).1
    have h2 := hy (OkF.and ht).2
    simp only [sg] at h1 h2
    simp [Fm.enc, sub, subN, sub_append, h1, h2, sg, subF]
  | or x y hx hy =>
    intro ht
    have h1 := hx (OkF.or ht).1
    have h2 := hy (OkF.or ht).2
    simp only [sg] at h1 h2
    simp [Fm.enc, sub, subN, sub_append, h1, h2, sg, subF]
  | imp x y hx hy =>
    intro ht
    have h1 := hx (OkF.imp ht).1
    have h2 := hy (OkF.imp ht).2
    simp only [sg] at h1 h2
    simp [Fm.enc, sub, subN, sub_append, h1, h2, sg, subF]
  | box x _ => intro ht; exact absurd ht.2 (by simp [Fm.plain])
  | dia x _ => intro ht; exact absurd ht.2 (by simp [Fm.plain])
theorem sg_ok {σ : List Fm} (hσ : OkL σ) : ∀ t : Fm, OkF t → OkF (sg σ t) := by
  intro t
  induction t with
  | var i =>
    intro ht
    unfold sg subF
    rw [List.getD_eq_getElem?_getD]
    by_cases hi : i < σ.length
    · simp only [List.getElem?_eq_getElem hi, Option.getD_some]; exact hσ _ (List.getElem_mem hi)
    · simp only [List.getElem?_eq_none (Nat.le_of_not_lt hi), Option.getD_none]; exact okF_fls
  | fls => intro ht; exact ht
  | and x y hx hy =>
    intro ht
    have h1 := hx (OkF.and ht).1
    have h2 := hy (OkF.and ht).2
    exact ⟨⟨h1.1, h2.1⟩, by simp [sg, subF, Fm.plain]; exact ⟨h1.2, h2.2⟩⟩
  | or x y hx hy =>
    intro ht
    have h1 := hx (OkF.or ht).1
    have h2 := hy (OkF.or ht).2
    exact ⟨⟨h1.1, h2.1⟩, by simp [sg, subF, Fm.plain]; exact ⟨h1.2, h2.2⟩⟩
  | imp x y hx hy =>
    intro ht
    have h1 := hx (OkF.imp ht).1
    have h2 := hy (OkF.imp ht).2
    exact ⟨⟨h1.1, h2.1⟩, by simp [sg, subF, Fm.plain]; exact ⟨h1.2, h2.2⟩⟩
  | box x _ => intro ht; exact absurd ht.2 (by simp [Fm.plain])
  | dia x _ => intro ht; exact absurd ht.2 (by simp [Fm.plain])
/-- a substitution unifies a formula, and its image is small -/
noncomputable def okU (t : Fm) (σ : List Fm) : Bool := decide ((sg σ t).enc.length ≤ 20) && sqB [] (sg σ t)
/-- a substitution breaks a rule, and all images are small -/
noncomputable def okB (G : List Fm) (t : Fm) (σ : List Fm) : Bool := ((G ++ [t]).all fun a => decide ((sg σ a).enc.length ≤ 20)) && brk (G.map (sg σ)) (sg σ t)
/-- substitutions of small formulas -/
def Sm (σ : List Fm) : Prop := σ.length = 6 ∧ OkL σ ∧ ∀ x ∈ σ, x.enc.length ≤ 40
theorem Sm.of {σ cs : List Fm} (h6 : σ.length = 6) (hc : OkL cs) (h40 : ∀ c ∈ cs, c.enc.length ≤ 40) (hm : ∀ x ∈ σ, x ∈ idF ∨ x ∈ cs) : Sm σ :=
  ⟨h6, fun x hx => (hm x hx).elim (idF_ok x) (hc x), fun x hx => (hm x hx).elim (fun h => by simp [idF] at h; rcases h with rfl | rfl | rfl | rfl | rfl | rfl <;> simp [Fm.enc]) (h40 x)⟩
theorem Sm.len {σ : List Fm} (h : Sm σ) {t : Fm} (ht : OkF t) : (sg σ t).enc.length ≤ 40 * t.enc.length := by
  rw [← sub_sg σ h.1 t ht]
  refine sub_len (fun x hx => ?_) (by omega) _
  obtain ⟨y, hy, rfl⟩ := List.mem_map.1 hx
  exact h.2.2 y hy
--
set_option maxRecDepth 20000 in
set_option maxHeartbeats 1000000 in
theorem findU_1_any (t : Fm) (ht : OkF t) (hl : t.enc.length ≤ 40) (σ : List Fm) (hs : Sm σ) (va v : Value) (b : Nat) (w : World) (hb : w.cell? ⟨b, 0, none⟩ = some va) (hva : Nds w va t.enc) (hv : NdsL w v (σ.map Fm.enc)) :
    Calls Tryz.prog 107 #[v, .pointer (some ⟨b, 0, none⟩)] w fun e w' => e = .returned (.bool (okU t σ)) ∧ Keeps w w' := by
  have hsl := hs.len ht
  have hnd : t.enc.all okNd = true := List.all_eq_true.2 (okNd_enc ht.1)
  have hX := substitute_any (σ.map Fm.enc) t.enc va v w hva hv hnd (by simp [hs.1]) (by rw [sub_sg σ hs.1 t ht]; omega)
  rw [sub_sg σ hs.1 t ht] at hX
  have hok := sg_ok hs.2.1 t ht
  unfold okU
  generalize sg σ t = u at *
  have HX := hid hX; clear hX
  obtain ⟨p, n, cap, rfl⟩ := hva.shape
  obtain ⟨p1, n1, c1, rfl⟩ := NdsL.shapeL hv
  have hsm : (!([u.enc].any fun x => decide (20 < x.length))) = decide (u.enc.length ≤ 20) := by rw [Bool.eq_iff_iff]; simp
  have HS := hid (fun v w2 (hv : Nds w2 v u.enc) => haveSmall_any [u.enc] _ (w2.alloc (.cells #[v] 24)) (NdsL.lit1 hv))
  rw [hsm] at HS
  clear hsm hv hva hs hnd
  by_cases hbig : u.enc.length ≤ 20
  · rw [decide_eq_true hbig] at HS ⊢
    rw [Bool.true_and]
    have HT := hid (fun v w2 (hv : Nds w2 v u.enc) => isTheorem_any u hok hbig v w2 hv)
    go_enter Tryz.func107, Tryz.ntmps107
    go_wp2_with fail
    refine HX.out.mono ?_; rintro e w2 ⟨v2, rfl, hv2, k2⟩
    have hn2 := hv2.nds (by omega)
    obtain ⟨p4, n4, c4, rfl⟩ := hn2.shape
    have kl := (Keeps.refl w2).alloc (.cells #[.slice p4 n4 c4] 24)
    go_wp2_with fail
    refine (HS.out _ w2 hn2).mono ?_; rintro e w3 ⟨rfl, k3⟩
    go_wp2_with fail
    refine (HT.out _ w3 (hn2.keeps (kl.trans k3))).mono ?_; rintro e w4 ⟨rfl, k4⟩
    go_wp2_with fail
    go_ret
    exact ⟨rfl, (k2.trans (kl.trans k3)).trans k4⟩
  · rw [decide_eq_false hbig] at HS ⊢
    rw [Bool.false_and]
    go_enter Tryz.func107, Tryz.ntmps107
    go_wp2_with fail
    refine HX.out.mono ?_; rintro e w2 ⟨v2, rfl, hv2, k2⟩
    have hn2 := hv2.nds (by omega)
    obtain ⟨p4, n4, c4, rfl⟩ := hn2.shape
    have kl := (Keeps.refl w2).alloc (.cells #[.slice p4 n4 c4] 24)
    go_wp2_with fail
    refine (HS.out _ w2 hn2).mono ?_; rintro e w3 ⟨rfl, k3⟩
    go_wp2_with fail
    go_ret
    exact ⟨rfl, k2.trans (kl.trans k3)⟩
theorem enters_findU : Enters 107 := fun _ _ => by kernel_rfl
--
set_option maxRecDepth 20000 in
set_option maxHeartbeats 2000000 in
theorem findB_1_any (G : List Fm) (t : Fm) (hG : OkL (G ++ [t])) (hl : ∀ a ∈ G ++ [t], a.enc.length ≤ 40) (h6 : G.length ≤ 6) (σ : List Fm) (hs : Sm σ) (va vb v : Value) (b : Nat) (w : World)
    (hb : w.cell? ⟨b, 0, none⟩ = some va) (hb2 : w.cell? ⟨b, 1, none⟩ = some vb) (hva : FsL w va G) (hvb : Nds w vb t.enc) (hv : NdsL w v (σ.map Fm.enc)) :
    Calls Tryz.prog 103 #[v, .pointer (some ⟨b, 0, none⟩)] w fun e w' => e = .returned (.bool (okB G t σ)) ∧ Keeps w w' := by
  have hsl : ∀ a ∈ G ++ [t], (sg σ a).enc.length ≤ 1600 := fun a ha => by have := hs.len (hG a ha); have := hl a ha; omega
  have hGs : (G.map Fm.enc).map (sub (σ.map Fm.enc)) = (G.map (sg σ)).map Fm.enc := by
    rw [List.map_map, List.map_map]
    exact List.map_congr_left fun a ha => sub_sg σ hs.1 a (hG a (by simp [ha]))
  have hts := sub_sg σ hs.1 t (hG t (by simp))
  have hX := imageOf_any (G.map Fm.enc) t.enc (σ.map Fm.enc) va vb v w hva hvb hv (fun a ha => by
    have ha2 : a ∈ (G ++ [t]).map Fm.enc := by simpa using ha
    obtain ⟨x, hx, rfl⟩ := List.mem_map.1 ha2
    exact List.all_eq_true.2 (okNd_enc (hG x hx).1)) (by simp [hs.1]) (fun a ha => by
    have ha2 : a ∈ (G ++ [t]).map Fm.enc := by simpa using ha
    obtain ⟨x, hx, rfl⟩ := List.mem_map.1 ha2
    rw [sub_sg σ hs.1 x (hG x hx)]
    have := hsl x hx; omega) (by simp; omega)
  rw [hGs, hts] at hX
  have HX := hid hX
  have hok : OkL (G.map (sg σ)) := fun x hx => by
    obtain ⟨y, hy, rfl⟩ := List.mem_map.1 hx
    exact sg_ok hs.2.1 y (hG y (by simp [hy]))
  have hokt := sg_ok hs.2.1 t (hG t (by simp))
  have hlen : (G.map (sg σ)).length ≤ 6 := by simpa using h6
  have hsl2 : ∀ a ∈ G.map (sg σ) ++ [sg σ t], a.enc.length ≤ 1600 := fun a ha => by
    have ha2 : a ∈ (G ++ [t]).map (sg σ) := by simpa using ha
    obtain ⟨x, hx, rfl⟩ := List.mem_map.1 ha2
    exact hsl x hx
  have hokb : okB G t σ = (((G.map (sg σ) ++ [sg σ t]).all fun a => decide (a.enc.length ≤ 20)) && brk (G.map (sg σ)) (sg σ t)) := by
    unfold okB
    congr 1
    rw [show G.map (sg σ) ++ [sg σ t] = (G ++ [t]).map (sg σ) by simp, List.all_map]; rfl
  rw [hokb]
  obtain ⟨p, n, cap, rfl⟩ := NdsL.shapeL hva
  obtain ⟨pb, nb, capb, rfl⟩ := hvb.shape
  obtain ⟨p1, n1, c1, rfl⟩ := NdsL.shapeL hv
  clear hX hokb hts hGs hsl hva hvb hv hs hl hG h6
  generalize G.map (sg σ) = H at *
  generalize sg σ t = u at *
  have htG : tot (H.map Fm.enc) ≤ 1600 * (H.map Fm.enc).length := tot_most _ 1600 (fun x hx => by obtain ⟨a, ha, rfl⟩ := List.mem_map.1 hx; exact hsl2 a (List.mem_append.2 (.inl ha)))
  have htG2 : tot (H.map Fm.enc) ≤ 2147483648 ∧ (H.map Fm.enc).length ≤ 2147483648 := by simp at htG ⊢; omega
  have htl := hsl2 u (by simp)
  have HF := hid (fun v x w2 (h1 : NdsL w2 v (H.map Fm.enc)) (h2 : Nds w2 x u.enc) => formulas_any (H.map Fm.enc) u.enc v x w2 h1 h2 (by simp; omega))
  have hS := fun v w2 (h : NdsL w2 v ((H ++ [u]).map Fm.enc)) => haveSmall_any _ v w2 h
  have hany : (!(((H ++ [u]).map Fm.enc).any fun x => decide (20 < x.length))) = ((H ++ [u]).all fun a => decide (a.enc.length ≤ 20)) := by
    rw [Bool.eq_iff_iff]
    simp
  rw [hany] at hS
  have hmap : (H ++ [u]).map Fm.enc = H.map Fm.enc ++ [u.enc] := by simp
  rw [hmap] at hS
  clear hany hmap
  cases hbig : ((H ++ [u]).all fun a => decide (a.enc.length ≤ 20)) with
  | false =>
    rw [hbig] at hS
    have HS := hid hS
    rw [Bool.false_and]
    clear hbig hS
    go_enter Tryz.func103, Tryz.ntmps103
    go_wp2_with fail
    refine HX.out.mono ?_; rintro e w4 ⟨v4, u4, rfl, hR, k4⟩
    have hL4 := hR.ndsL htG2.2 htG2.1
    have hu4 := hR.nds (by omega)
    obtain ⟨p4, n4, q4, rfl⟩ := NdsL.shapeL hL4
    obtain ⟨p5, n5, q5, rfl⟩ := hu4.shape
    have kl := (Keeps.refl w4).alloc (.cells #[.slice p4 n4 q4, .slice p5 n5 q5] 37)
    have HF4 := hid (HF.out _ _ _ (hL4.keeps kl) (hu4.keeps kl))
    clear hR hL4 hu4
    go_wp2_with fail
    refine HF4.out.mono ?_; rintro e w5 ⟨v5, rfl, hv5, k5⟩
    go_wp2_with fail
    refine (HS.out _ w5 hv5).mono ?_; rintro e w6 ⟨rfl, k6⟩
    go_wp2_with fail
    go_ret
    exact ⟨rfl, (k4.trans (kl.trans k5)).trans k6⟩
  | true =>
    have hl20 : ∀ a ∈ H ++ [u], a.enc.length ≤ 20 := fun a ha => by
      have := List.all_eq_true.1 hbig a ha
      simpa using this
    have HBr := hid (fun v x w2 (h1 : FsL w2 v H) (h2 : Nds w2 x u.enc) => isBroken_any H u hok hokt hl20 v x w2 h1 h2)
    rw [hbig] at hS
    have HS := hid hS
    rw [Bool.true_and]
    clear hbig hS
    go_enter Tryz.func103, Tryz.ntmps103
    go_wp2_with fail
    refine HX.out.mono ?_; rintro e w4 ⟨v4, u4, rfl, hR, k4⟩
    have hL4 := hR.ndsL htG2.2 htG2.1
    have hu4 := hR.nds (by omega)
    obtain ⟨p4, n4, q4, rfl⟩ := NdsL.shapeL hL4
    obtain ⟨p5, n5, q5, rfl⟩ := hu4.shape
    have kl := (Keeps.refl w4).alloc (.cells #[.slice p4 n4 q4, .slice p5 n5 q5] 37)
    have ra : (w4.alloc (.cells #[.slice p4 n4 q4, .slice p5 n5 q5] 37)).cell? ⟨w4.heap.size, 0, none⟩ = some (.slice p4 n4 q4) := by simp
    have rb : (w4.alloc (.cells #[.slice p4 n4 q4, .slice p5 n5 q5] 37)).cell? ⟨w4.heap.size, 1, none⟩ = some (.slice p5 n5 q5) := by simp
    have HF4 := hid (HF.out _ _ _ (hL4.keeps kl) (hu4.keeps kl))
    have HBr4 := hid (fun w2 (k : Keeps w4 w2) => HBr.out _ _ w2 (hL4.keeps k) (hu4.keeps k))
    clear hR hL4 hu4
    go_wp2_with fail
    refine HF4.out.mono ?_; rintro e w5 ⟨v5, rfl, hv5, k5⟩
    go_wp2_with fail
    refine (HS.out _ w5 hv5).mono ?_; rintro e w6 ⟨rfl, k6⟩
    obtain ⟨s1, s2⟩ := cells_keeps (k5.trans k6) (And.intro ra rb)
    go_wp2_with fail
    refine (HBr4.out w6 (kl.trans (k5.trans k6))).mono ?_; rintro e w7 ⟨rfl, k7⟩
    go_wp2_with fail
    go_ret
    exact ⟨rfl, (k4.trans (kl.trans (k5.trans k6))).trans k7⟩
theorem enters_findB : Enters 103 := fun _ _ => by kernel_rfl
/-- the error of candidates -/
def candE (m n : Nat) (s : Bool) : Int := if 8 < m then 2 else if 600 < m ^ n ∨ s = false then 3 else 0
--
set_option maxRecDepth 20000 in
set_option maxHeartbeats 1000000 in
theorem candidateCode_any (vs : List Int) (cs : List (List Nd)) (s : Bool) (v u : Value) (w : World) (hu : NdsL w u cs) (hv : Ints w v vs) (h6 : vs.length ≤ 6) :
    Calls Tryz.prog 101 #[u, v, .bool s] w fun e w' => e = .returned (.int .i64 (candE cs.length vs.length s)) ∧ w = w' := by
  obtain ⟨p, cap, rfl, hle, hmx, hx1, hx2⟩ := hv
  obtain ⟨q, dap, rfl, hle2, hmx2, hx3, hx4⟩ := hu
  unfold maxLen at hmx hmx2
  clear hx1 hx2 hx3 hx4
  generalize hm : cs.length = m at *
  generalize hn : vs.length = n at *
  by_cases h8 : 8 < m
  · have h8' : (8 : Int) < m := by omega
    have he : candE m n s = 2 := by unfold candE; rw [if_pos h8]
    rw [he]
    go_enter Tryz.func101, Tryz.ntmps101
    go_wp2
    go_ret
    exact ⟨rfl, rfl⟩
  · have h8' : ¬ (8 : Int) < m := by omega
    have he : candE m n s = if 600 < m ^ n ∨ s = false then 3 else 0 := by unfold candE; rw [if_neg h8]
    have hpow : ∀ k, k ≤ 6 → m ^ k ≤ 262144 := fun k hk => by
      have h1 : m ^ k ≤ 8 ^ k := Nat.pow_le_pow_left (by omega) k
      have h2 : 8 ^ k ≤ 8 ^ 6 := Nat.pow_le_pow_right (by omega) hk
      omega
    have HP := hid hpow; clear hpow
    have hm8 : m ≤ 8 := by omega
    rw [he]
    clear he
    generalize hN : m ^ n = N
    have HN := hid hN; clear hN
    have hp : ∀ k, m ^ (k + 1) = m ^ k * m := fun k => Nat.pow_succ ..
    have HPS := hid hp; clear hp
    by_cases hbig : 600 < N
    · rw [if_pos (.inl hbig)]
      have hbig' : (600 : Int) < N := by omega
      go_enter Tryz.func101, Tryz.ntmps101
      go_wp2
      go_loop [7, 13] (fun c i' => ∃ k : Nat, k ≤ n ∧ i' = .int .i64 k ∧ c = .int .i64 (m ^ k : Nat)) (fun _ i => n - (intOf i).toNat)
      case atStart => exact ⟨0, by omega, rfl, by simp⟩
      case round =>
        obtain ⟨k, hk, rfl, rfl⟩ := hrel
        by_cases hlt : k < n
        · have hlt' : (k : Int) < n := by omega
          have hb := HP.out k (by omega)
          have hb' := HP.out (k + 1) (by omega)
          have hs := hid (HPS.out k)
          rw [hs.out] at hb'
          generalize m ^ k = x at *
          have hcm : (x : Int) * (m : Int) = ((x * m : Nat) : Int) := by push_cast; rfl
          have hb0 : 0 ≤ (x : Int) * (m : Int) := by rw [hcm]; omega
          have hb1 : (x : Int) * (m : Int) ≤ 262144 := by rw [hcm]; omega
          have HCM := hid hcm; clear hcm hb'
          go_wp2
          go_round
          case rel => exact ⟨k + 1, by omega, by go_num, by rw [hs.out, ← HCM.out]⟩
          case measure => simp [intOf]; omega
        · obtain rfl : k = n := by omega
          have hlt' : ¬ (k : Int) < k := by omega
          rw [HN.out]
          go_wp2
          go_ret
          exact ⟨rfl, rfl⟩
    · have hbig' : ¬ (600 : Int) < N := by omega
      have hif : (if 600 < N ∨ s = false then (3 : Int) else 0) = if s then 0 else 3 := by cases s <;> simp [hbig]
      rw [hif]
      cases s
      all_goals
        simp only [Bool.false_eq_true, if_true, if_false]
        go_enter Tryz.func101, Tryz.ntmps101
        go_wp2
        go_loop [7, 13] (fun c i' => ∃ k : Nat, k ≤ n ∧ i' = .int .i64 k ∧ c = .int .i64 (m ^ k : Nat)) (fun _ i => n - (intOf i).toNat)
        case atStart => exact ⟨0, by omega, rfl, by simp⟩
        case round =>
          obtain ⟨k, hk, rfl, rfl⟩ := hrel
          by_cases hlt : k < n
          · have hlt' : (k : Int) < n := by omega
            have hb := HP.out k (by omega)
            have hb' := HP.out (k + 1) (by omega)
            have hs := hid (HPS.out k)
            rw [hs.out] at hb'
            generalize m ^ k = x at *
            have hcm : (x : Int) * (m : Int) = ((x * m : Nat) : Int) := by push_cast; rfl
            have hb0 : 0 ≤ (x : Int) * (m : Int) := by rw [hcm]; omega
            have hb1 : (x : Int) * (m : Int) ≤ 262144 := by rw [hcm]; omega
            have HCM := hid hcm; clear hcm hb'
            go_wp2
            go_round
            case rel => exact ⟨k + 1, by omega, by go_num, by rw [hs.out, ← HCM.out]⟩
            case measure => simp [intOf]; omega
          · obtain rfl : k = n := by omega
            have hlt' : ¬ (k : Int) < k := by omega
            rw [HN.out]
            go_wp2
            go_ret
            exact ⟨rfl, rfl⟩
end Go.Proofs.YtodeecmhcfbheaaGreat
/- The reference's l31Search. (printed by mkzg.py) -/
namespace Go.Proofs.YtodeecmhcfbheaaGreat
open Go.RowKit
theorem ret_two {u : Value} {c d : Int} (h : c = d) : Ending.returned (.tuple #[u, .int .i64 c]) = .returned (.tuple #[u, .int .i64 d]) := by rw [h]
/-- a list of lists and an error come back -/
def LsE (w : World) (r : List (List Nd)) (c : Int) (e : Ending) (w' : World) : Prop := ∃ x, e = .returned (.tuple #[x, .int .i64 c]) ∧ NdsL w' x r ∧ Keeps w w'
/-- the same, owned -/
def OwE (w : World) (r : List (List Nd)) (c : Int) (e : Ending) (w' : World) : Prop := ∃ x, e = .returned (.tuple #[x, .int .i64 c]) ∧ OwnL w' w.heap.size x r ∧ Keeps w w'
--
set_option maxRecDepth 20000 in
set_option maxHeartbeats 1000000 in
theorem l31Search_err (xs cs : List (List Nd)) (b : Bool) (h : plainErrs (xs ++ cs) ≠ 0) (v u : Value) (w : World) (hv : NdsL w v xs) (hu : NdsL w u cs) :
    Calls Tryz.prog 104 #[v, u, .bool b] w (LsE w [] (plainErrs (xs ++ cs))) := by
  have H1 := hid (l31Plain_any xs v w hv)
  have H2 := hid (l31Plain_any cs u w hu)
  have hB := l31Both_two (plainErrs xs) (plainErrs cs) w (plainErrs_range xs) (plainErrs_range cs)
  rw [bothE_app] at hB
  have HB := hid hB; clear hB
  have h' : (plainErrs (xs ++ cs) != 0) = true := by simp [h]
  have HN := hid h; clear h
  generalize plainErrs (xs ++ cs) = E at *
  obtain ⟨p1, n1, q1, rfl⟩ := NdsL.shapeL hv
  obtain ⟨p2, n2, q2, rfl⟩ := NdsL.shapeL hu
  go_enter Tryz.func104, Tryz.ntmps104
  go_wp2_with fail
  refine H1.out.mono ?_; rintro e w2 ⟨rfl, rfl⟩
  go_wp2_with fail
  refine H2.out.mono ?_; rintro e w2 ⟨rfl, rfl⟩
  go_wp2_with fail
  refine HB.out.mono ?_; rintro e w2 ⟨rfl, rfl⟩
  go_wp2_with fail
  go_ret2
  exact ⟨_, rfl, ndsL_nil _, Keeps.refl _⟩
theorem cap_big {m n : Nat} (h : 600 < m ^ n) : 600 < cap601 m n := by rw [cap601_eq]; omega
theorem cap_small {m n : Nat} (h : ¬ 600 < m ^ n) : cap601 m n = m ^ n := by rw [cap601_eq]; omega
set_option maxRecDepth 20000 in
set_option maxHeartbeats 2000000 in
/-- there are too many candidates, or too many nodes, or too many substitutions -/
theorem l31Search_lim (xs cs : List (List Nd)) (b : Bool) (h0 : plainErrs (xs ++ cs) = 0) (hok : ∀ x ∈ xs, x.all okNd = true) (ht : tot xs ≤ 1000) (hc : candE cs.length (mem (vmL xs)).length (decide (tot xs ≤ 20)) ≠ 0) (v u : Value) (w : World) (hv : NdsL w v xs) (hu : NdsL w u cs) :
    Calls Tryz.prog 104 #[v, u, .bool b] w (LsE w [] (candE cs.length (mem (vmL xs)).length (decide (tot xs ≤ 20)))) := by
  have H1 := hid (l31Plain_any xs v w hv)
  have H2 := hid (l31Plain_any cs u w hu)
  have hB := l31Both_two (plainErrs xs) (plainErrs cs) w (plainErrs_range xs) (plainErrs_range cs)
  rw [bothE_app, h0] at hB
  have HB := hid hB; clear hB h0
  have HV := hid (l06Variables_any xs v w hv hok)
  have HS := hid (fun w2 (k : Keeps w w2) => l31Size_any xs v w2 (hv.keeps k) (by omega))
  have hml : (mem (vmL xs)).length ≤ 6 := low_len _ 6
  generalize mem (vmL xs) = vs at *
  have HC := hid (fun (h8 : cs.length ≤ 8) x w2 (k : Keeps w w2) (hx : Ints w2 x vs) => l31Count_any vs cs x u w2 hx (hu.keeps k) hml h8)
  obtain ⟨p1, n1, q1, rfl⟩ := NdsL.shapeL hv
  obtain ⟨p2, n2, q2, rfl⟩ := NdsL.shapeL hu
  obtain ⟨hnc, hncc, hmc⟩ : n2 = cs.length ∧ n2 ≤ q2 ∧ q2 ≤ maxLen := by obtain ⟨_, _, e, h1, h2, _⟩ := hu; cases e; exact ⟨rfl, h1, h2⟩
  subst hnc
  unfold maxLen at hmc
  clear hv hu hok
  by_cases h8 : 8 < cs.length
  · have h8' : (8 : Int) < cs.length := by omega
    have he : candE cs.length vs.length (decide (tot xs ≤ 20)) = 2 := by unfold candE; rw [if_pos h8]
    rw [he]
    clear hc he
    go_enter Tryz.func104, Tryz.ntmps104
    go_wp2_with fail
    refine H1.out.mono ?_; rintro e w2 ⟨rfl, rfl⟩
    go_wp2_with fail
    refine H2.out.mono ?_; rintro e w2 ⟨rfl, rfl⟩
    go_wp2_with fail
    refine HB.out.mono ?_; rintro e w2 ⟨rfl, rfl⟩
    go_wp2_with fail
    refine HV.out.mono ?_; rintro e w2 ⟨v2, rfl, hv2, k2⟩
    go_wp2_with fail
    go_ret2
    exact ⟨_, rfl, ndsL_nil _, k2⟩
  · have h8' : ¬ (8 : Int) < cs.length := by omega
    have he : candE cs.length vs.length (decide (tot xs ≤ 20)) = 3 := by
      unfold candE at hc ⊢
      rw [if_neg h8] at hc ⊢
      split at hc
      · rw [if_pos (by assumption)]
      · exact absurd rfl hc
    have hc2 : 20 < tot xs ∨ 600 < cs.length ^ vs.length := by
      unfold candE at hc
      rw [if_neg h8] at hc
      by_cases h20 : 20 < tot xs
      · exact .inl h20
      · right
        by_cases h6 : 600 < cs.length ^ vs.length
        · exact h6
        · rw [if_neg (by simp; omega)] at hc; exact absurd rfl hc
    rw [he]
    clear hc he
    by_cases h20 : 20 < tot xs
    · have h20' : (20 : Int) < (tot xs : Nat) := by omega
      clear hc2
      generalize tot xs = T at *
      go_enter Tryz.func104, Tryz.ntmps104
      go_wp2_with fail
      refine H1.out.mono ?_; rintro e w2 ⟨rfl, rfl⟩
      go_wp2_with fail
      refine H2.out.mono ?_; rintro e w2 ⟨rfl, rfl⟩
      go_wp2_with fail
      refine HB.out.mono ?_; rintro e w2 ⟨rfl, rfl⟩
      go_wp2_with fail
      refine HV.out.mono ?_; rintro e w2 ⟨v2, rfl, hv2, k2⟩
      go_wp2_with fail
      refine (HS.out w2 k2).mono ?_; rintro e w3 ⟨rfl, rfl⟩
      go_wp2_with fail
      go_ret2
      exact ⟨_, rfl, ndsL_nil _, k2⟩
    · have h20' : ¬ (20 : Int) < (tot xs : Nat) := by omega
      have hcap := cap_big (hc2.resolve_left h20)
      have hcap' : (600 : Int) < (cap601 cs.length vs.length : Nat) := by omega
      clear hc2 hcap
      generalize tot xs = T at *
      have HC8 := hid (HC.out (by omega))
      clear HC
      generalize cap601 cs.length vs.length = CC at *
      go_enter Tryz.func104, Tryz.ntmps104
      go_wp2_with fail
      refine H1.out.mono ?_; rintro e w2 ⟨rfl, rfl⟩
      go_wp2_with fail
      refine H2.out.mono ?_; rintro e w2 ⟨rfl, rfl⟩
      go_wp2_with fail
      refine HB.out.mono ?_; rintro e w2 ⟨rfl, rfl⟩
      go_wp2_with fail
      refine HV.out.mono ?_; rintro e w2 ⟨v2, rfl, hv2, k2⟩
      have HI2 := hid (hv2.ints (by omega))
      obtain ⟨p3, c3, rfl, _⟩ := hv2.ints (by omega)
      go_wp2_with fail
      refine (HS.out w2 k2).mono ?_; rintro e w3 ⟨rfl, rfl⟩
      go_wp2_with fail
      refine (HC8.out _ w2 k2 HI2.out).mono ?_; rintro e w3 ⟨rfl, rfl⟩
      go_wp2_with fail
      go_ret2
      exact ⟨_, rfl, ndsL_nil _, k2⟩

set_option maxRecDepth 20000 in
set_option maxHeartbeats 4000000 in
theorem l31Search_U (t : Fm) (hT : OkL [t]) (htot : tot [t.enc] ≤ 20) (C : List Fm) (hC : OkL C) (hC40 : ∀ c ∈ C, c.enc.length ≤ 40) (hC8 : C.length ≤ 8) (h0 : plainErrs ([t.enc] ++ C.map Fm.enc) = 0) (hN : C.length ^ (mem (vmL [t.enc])).length ≤ 600)
    (r : List (List Nd)) (c : Int) (hr : r = ((firstC (okU t) C (mem (vmL [t.enc])) idF).getD []).map Fm.enc) (hc : c = if (firstC (okU t) C (mem (vmL [t.enc])) idF).isSome then 0 else 4) (v u : Value) (w : World) (hv : NdsL w v [t.enc]) (hu : NdsL w u (C.map Fm.enc)) :
    Calls Tryz.prog 104 #[v, u, .bool true] w (LsE w r c) := by
  have hok : ∀ x ∈ [t.enc], x.all okNd = true := fun x hx => by
    have hx2 : x ∈ ([t]).map Fm.enc := by simpa using hx
    obtain ⟨y, hy, rfl⟩ := List.mem_map.1 hx2
    exact List.all_eq_true.2 (okNd_enc (hT y hy).1)
  have hlen20 : ∀ y ∈ [t], y.enc.length ≤ 20 := fun y hy => by
    have hm : y.enc ∈ [t.enc] := by simpa using List.mem_map.2 ⟨y, hy, rfl⟩
    obtain ⟨i, hi, e⟩ := List.getElem_of_mem hm
    have := tot_mem _ i hi
    rw [e] at this
    omega
  have hT7 : ([t]).length ≤ 7 := by simp
  have H1 := hid (l31Plain_any _ v w hv)
  have H2 := hid (l31Plain_any _ u w hu)
  have hB := l31Both_two _ _ w (plainErrs_range [t.enc]) (plainErrs_range (C.map Fm.enc))
  rw [bothE_app, h0] at hB
  have HB := hid hB; clear hB h0
  have HV := hid (l06Variables_any _ v w hv hok)
  have HS := hid (fun w2 (k : Keeps w w2) => l31Size_any _ v w2 (hv.keeps k) (by omega))
  have h20' : ¬ (20 : Int) < (tot [t.enc] : Nat) := by omega
  have hml : (mem (vmL [t.enc])).length ≤ 6 := low_len _ 6
  have hmr := mem_range (vmL [t.enc])
  have hnd := mem_nodup ⟨vmL [t.enc], by have := vmL_lt hok _ (Nat.le_refl _); rwa [List.take_length] at this⟩
  simp only at hnd
  generalize mem (vmL [t.enc]) = vs at *
  have hf1 := fun k hk hn hp => firstC_found (okU t) C vs hnd idF k hk hn hp
  have hf2 := fun hn => firstC_lost (okU t) C vs hnd idF hn
  have HFO := hid hf1; clear hf1
  have HLO := hid hf2; clear hf2
  have HCN := hid (fun x w2 (k : Keeps w w2) (hx : Ints w2 x vs) => l31Count_any vs (C.map Fm.enc) x u w2 hx (hu.keeps k) hml (by simpa using hC8))
  rw [List.length_map, cap_small (by omega)] at HCN
  have HCH := hid (fun k (hk : k < C.length ^ vs.length) x w2 (kk : Keeps w w2) (hx : Ints w2 x vs) => l31Choice_any vs C k x u w2 hx (hu.keeps kk) hmr hml hC8 (fun h => (pow_posC hk).resolve_left (by omega)) (by omega) hC40)
  have hsm : ∀ k, Sm (pickC C vs.reverse k idF) := fun k => Sm.of (by rw [pickC_len]; rfl) hC hC40 (pickC_mem C vs.reverse k idF)
  have HSM := hid hsm; clear hsm
  have HX := hid (fun σ (hs : Sm σ) y w2 (kk : Keeps w w2) (hy : NdsL w2 y (σ.map Fm.enc)) => l31Image_any (σ.map Fm.enc) [t.enc] v y w2 (hv.keeps kk) hy hok (by simp [hs.1]) (fun x hx => by
    have hx2 : x ∈ ([t]).map Fm.enc := by simpa using hx
    obtain ⟨z, hz, rfl⟩ := List.mem_map.1 hx2
    rw [sub_sg σ hs.1 z (hT z hz)]
    have := hs.len (hT z hz)
    have := hlen20 z hz
    omega) (by simp))
  obtain ⟨p1, n1, q1, rfl⟩ := NdsL.shapeL hv
  obtain ⟨p2, n2, q2, rfl⟩ := NdsL.shapeL hu
  obtain ⟨hnc, hncc, hmc⟩ : n2 = (C.map Fm.enc).length ∧ n2 ≤ q2 ∧ q2 ≤ maxLen := by obtain ⟨_, _, e, h1, h2, _⟩ := hu; cases e; exact ⟨rfl, h1, h2⟩
  rw [List.length_map] at hnc
  subst hnc
  unfold maxLen at hmc
  have h8' : ¬ (8 : Int) < C.length := by omega
  have HR := hid hr; clear hr
  have HCc := hid hc; clear hc
  have HT := hid hT; clear hT
  have HL20 := hid hlen20; clear hlen20
  have hN' : ((C.length ^ vs.length : Nat) : Int) ≤ 600 := by omega
  clear hv hu hok hmr hnd hC40
  generalize plainErrs [t.enc] = E1 at *
  generalize plainErrs (C.map Fm.enc) = E2 at *
  generalize hNN : C.length ^ vs.length = N at *
  have hN6 : ¬ (600 : Int) < N := by omega
  clear hNN
  generalize tot [t.enc] = TT at *
  go_enter Tryz.func104, Tryz.ntmps104
  go_wp2_with fail
  refine H1.out.mono ?_; rintro e w2 ⟨rfl, rfl⟩
  go_wp2_with fail
  refine H2.out.mono ?_; rintro e w2 ⟨rfl, rfl⟩
  go_wp2_with fail
  refine HB.out.mono ?_; rintro e w2 ⟨rfl, rfl⟩
  go_wp2_with fail
  refine HV.out.mono ?_; rintro e w2 ⟨v2, rfl, hv2, k2⟩
  have HI2 := hid (hv2.ints (by omega))
  obtain ⟨p3, c3, rfl, _⟩ := hv2.ints (by omega)
  go_wp2_with fail
  refine (HS.out w2 k2).mono ?_; rintro e w3 ⟨rfl, rfl⟩
  go_wp2_with fail
  refine (HCN.out _ w2 k2 HI2.out).mono ?_; rintro e w3 ⟨rfl, rfl⟩
  clear H1 H2 HB HV HS
  go_wp2_with fail
  go_loopw [10] (fun i' wr => ∃ k : Nat, k ≤ N ∧ i' = .int .i64 k ∧ Hid (∀ j, j < k → testC (okU t) (pickC C vs.reverse j idF) = none) ∧ Keeps w2 wr) (fun i _ => N - (intOf i).toNat)
  case atStart => exact ⟨0, by omega, rfl, fun j h => by omega, Keeps.refl _⟩
  case round =>
    obtain ⟨k, hk, rfl, hno, kw⟩ := hrel
    have k2w := k2.trans kw
    have HCN2 := hid (HCN.out _ wr k2w (HI2.out.keeps kw))
    by_cases hlt : k < N
    · have hlt' : (k : Int) < N := by omega
      have HCH2 := hid (HCH.out k hlt _ wr k2w (HI2.out.keeps kw))
      have hs := HSM.out k
      have hfo := hid (HFO.out k hlt hno.out)
      have hnx := hid (fun (hb : (okU t) (pickC C vs.reverse k idF) = false) => (show ∀ j, j < k + 1 → testC (okU t) (pickC C vs.reverse j idF) = none from fun j hj => by
        by_cases e : j = k
        · subst e; exact testC_none.2 hb
        · exact hno.out j (by omega)))
      generalize pickC C vs.reverse k idF = σ at *
      have hs6 : (σ.map Fm.enc).length ≤ 6 := by rw [List.length_map, hs.1]; omega
      have hst : tot (σ.map Fm.enc) ≤ 1000 := by
        have := tot_most (σ.map Fm.enc) 40 (fun x hx => by obtain ⟨y, hy, rfl⟩ := List.mem_map.1 hx; exact hs.2.2 y hy)
        omega
      have hXi := HX.out σ hs
      rw [show [t.enc].map (sub (σ.map Fm.enc)) = [(sg σ t).enc] by simp [sub_sg σ hs.1 t (HT.out t (by simp))], show mostL [(sg σ t).enc] = (sg σ t).enc.length by simp [mostL]] at hXi
      have HXi := hid hXi; clear hXi
      have hokt := sg_ok hs.2.1 t (HT.out t (by simp))
      have hpk := hid (show okU t σ = (decide ((sg σ t).enc.length ≤ 20) && sqB [] (sg σ t)) from rfl)
      have hle := hs.len (HT.out t (by simp))
      have hle2 := HL20.out t (by simp)
      have hmk := hid (show tot [(sg σ t).enc] ≤ 1000 by simp [tot]; omega)
      generalize sg σ t = x at *
      generalize hPk : okU t σ = b at *
      clear hs
      go_wp2_with fail
      refine HCN2.out.mono ?_; rintro e w3 ⟨rfl, rfl⟩
      go_wp2_with fail
      refine HCH2.out.mono ?_; rintro e w3 ⟨v3, rfl, hv3, k3⟩
      have hn3 := hv3.ndsL (by omega) (by omega)
      go_wp2_with fail
      refine (HXi.out v3 w3 (k2w.trans k3) hn3).mono ?_; rintro e w4 ⟨v4, rfl, hv4, k4⟩
      have HN4 := hid (hn3.keeps k4)
      have KW := hid ((kw.trans k3).trans k4)
      clear hn3 hv3 HCN2 HCH2 HXi
      by_cases hbig : (x.enc.length) ≤ 20
      · have hb2 : ((x.enc.length : Nat) : Int) ≤ 20 := by omega
        have hpk' := hpk.out
        rw [decide_eq_true hbig, Bool.true_and] at hpk'
        clear hpk
        cases hv5 : sqB [] x with
        | true =>
          rw [hv5] at hpk'
          have hfe := hid (hfo.out hpk')
          have hL := hv4.ndsL (by simp) (by have := hmk.out; omega)
          obtain ⟨p4, n4, c4, rfl⟩ := NdsL.shapeL hL
          obtain ⟨b5, o5, u5, e, hc5, hu5⟩ := hL.get 0 (by simp)
          subst e
          rw [Nat.add_zero] at hc5
          simp only [List.getElem_cons_zero] at hu5
          obtain ⟨n4pos, hcap4⟩ : 0 < n4 ∧ n4 ≤ c4 := by obtain ⟨_, _, e, g1, _⟩ := hL; cases e; exact ⟨by simp, by simpa using g1⟩
          have HT5 := hid (l31Theorem_any x hokt hbig _ w4 hu5)
          obtain ⟨p5, n5, q5, rfl⟩ := hu5.shape
          clear hL hv4 hu5
          rw [hv5] at HT5
          clear hv5 hpk'
          go_wp2_with fail
          refine HT5.out.mono ?_; rintro e w5 ⟨rfl, k5⟩
          go_wp2_with fail
          go_ret2
          exact ⟨_, ret_two (by rw [HCc.out, hfe.out]; rfl), by rw [HR.out, hfe.out]; exact HN4.out.keeps k5, (k2.trans KW.out).trans k5⟩
        | false =>
          rw [hv5] at hpk'
          have hnxt := hid (hnx.out hpk')
          have hL := hv4.ndsL (by simp) (by have := hmk.out; omega)
          obtain ⟨p4, n4, c4, rfl⟩ := NdsL.shapeL hL
          obtain ⟨b5, o5, u5, e, hc5, hu5⟩ := hL.get 0 (by simp)
          subst e
          rw [Nat.add_zero] at hc5
          simp only [List.getElem_cons_zero] at hu5
          obtain ⟨n4pos, hcap4⟩ : 0 < n4 ∧ n4 ≤ c4 := by obtain ⟨_, _, e, g1, _⟩ := hL; cases e; exact ⟨by simp, by simpa using g1⟩
          have HT5 := hid (l31Theorem_any x hokt hbig _ w4 hu5)
          obtain ⟨p5, n5, q5, rfl⟩ := hu5.shape
          clear hL hv4 hu5
          rw [hv5] at HT5
          clear hv5 hpk'
          go_wp2_with fail
          refine HT5.out.mono ?_; rintro e w5 ⟨rfl, k5⟩
          go_wp2_with fail
          go_roundw
          case rel => exact ⟨k + 1, by omega, by go_num, hnxt.out, KW.out.trans k5⟩
          case measure => simp [intOf]; omega
      · have hb2 : ¬ ((x.enc.length : Nat) : Int) ≤ 20 := by omega
        have hnxt := hid (hnx.out (by rw [hpk.out, decide_eq_false hbig, Bool.false_and]))
        clear hpk hv4
        go_wp2_with fail
        go_roundw
        case rel => exact ⟨k + 1, by omega, by go_num, hnxt.out, KW.out⟩
        case measure => simp [intOf]; omega
    · obtain rfl : k = N := by omega
      have hlt' : ¬ (k : Int) < k := by omega
      have hlo := hid (HLO.out hno.out)
      go_wp2_with fail
      refine HCN2.out.mono ?_; rintro e w3 ⟨rfl, rfl⟩
      go_wp2_with fail
      go_ret2
      exact ⟨_, ret_two (by rw [HCc.out, hlo.out]; rfl), by rw [HR.out, hlo.out]; exact ndsL_nil _, k2w⟩

set_option maxRecDepth 20000 in
set_option maxHeartbeats 4000000 in
theorem l31Search_B (G : List Fm) (t : Fm) (hT : OkL (G ++ [t])) (hG6 : G.length ≤ 6) (htot : tot ((G ++ [t]).map Fm.enc) ≤ 20) (C : List Fm) (hC : OkL C) (hC40 : ∀ c ∈ C, c.enc.length ≤ 40) (hC8 : C.length ≤ 8) (h0 : plainErrs (((G ++ [t]).map Fm.enc) ++ C.map Fm.enc) = 0) (hN : C.length ^ (mem (vmL ((G ++ [t]).map Fm.enc))).length ≤ 600)
    (r : List (List Nd)) (c : Int) (hr : r = ((firstC (okB G t) C (mem (vmL ((G ++ [t]).map Fm.enc))) idF).getD []).map Fm.enc) (hc : c = if (firstC (okB G t) C (mem (vmL ((G ++ [t]).map Fm.enc))) idF).isSome then 0 else 4) (v u : Value) (w : World) (hv : NdsL w v ((G ++ [t]).map Fm.enc)) (hu : NdsL w u (C.map Fm.enc)) :
    Calls Tryz.prog 104 #[v, u, .bool false] w (LsE w r c) := by
  have hok : ∀ x ∈ ((G ++ [t]).map Fm.enc), x.all okNd = true := fun x hx => by
    have hx2 : x ∈ ((G ++ [t])).map Fm.enc := by simpa using hx
    obtain ⟨y, hy, rfl⟩ := List.mem_map.1 hx2
    exact List.all_eq_true.2 (okNd_enc (hT y hy).1)
  have hlen20 : ∀ y ∈ (G ++ [t]), y.enc.length ≤ 20 := fun y hy => by
    have hm : y.enc ∈ ((G ++ [t]).map Fm.enc) := by simpa using List.mem_map.2 ⟨y, hy, rfl⟩
    obtain ⟨i, hi, e⟩ := List.getElem_of_mem hm
    have := tot_mem _ i hi
    rw [e] at this
    omega
  have hT7 : ((G ++ [t])).length ≤ 7 := by simp; omega
  have H1 := hid (l31Plain_any _ v w hv)
  have H2 := hid (l31Plain_any _ u w hu)
  have hB := l31Both_two _ _ w (plainErrs_range ((G ++ [t]).map Fm.enc)) (plainErrs_range (C.map Fm.enc))
  rw [bothE_app, h0] at hB
  have HB := hid hB; clear hB h0
  have HV := hid (l06Variables_any _ v w hv hok)
  have HS := hid (fun w2 (k : Keeps w w2) => l31Size_any _ v w2 (hv.keeps k) (by omega))
  have h20' : ¬ (20 : Int) < (tot ((G ++ [t]).map Fm.enc) : Nat) := by omega
  have hml : (mem (vmL ((G ++ [t]).map Fm.enc))).length ≤ 6 := low_len _ 6
  have hmr := mem_range (vmL ((G ++ [t]).map Fm.enc))
  have hnd := mem_nodup ⟨vmL ((G ++ [t]).map Fm.enc), by have := vmL_lt hok _ (Nat.le_refl _); rwa [List.take_length] at this⟩
  simp only at hnd
  generalize mem (vmL ((G ++ [t]).map Fm.enc)) = vs at *
  have hf1 := fun k hk hn hp => firstC_found (okB G t) C vs hnd idF k hk hn hp
  have hf2 := fun hn => firstC_lost (okB G t) C vs hnd idF hn
  have HFO := hid hf1; clear hf1
  have HLO := hid hf2; clear hf2
  have HCN := hid (fun x w2 (k : Keeps w w2) (hx : Ints w2 x vs) => l31Count_any vs (C.map Fm.enc) x u w2 hx (hu.keeps k) hml (by simpa using hC8))
  rw [List.length_map, cap_small (by omega)] at HCN
  have HCH := hid (fun k (hk : k < C.length ^ vs.length) x w2 (kk : Keeps w w2) (hx : Ints w2 x vs) => l31Choice_any vs C k x u w2 hx (hu.keeps kk) hmr hml hC8 (fun h => (pow_posC hk).resolve_left (by omega)) (by omega) hC40)
  have hsm : ∀ k, Sm (pickC C vs.reverse k idF) := fun k => Sm.of (by rw [pickC_len]; rfl) hC hC40 (pickC_mem C vs.reverse k idF)
  have HSM := hid hsm; clear hsm
  have HX := hid (fun σ (hs : Sm σ) y w2 (kk : Keeps w w2) (hy : NdsL w2 y (σ.map Fm.enc)) => l31Image_any (σ.map Fm.enc) ((G ++ [t]).map Fm.enc) v y w2 (hv.keeps kk) hy hok (by simp [hs.1]) (fun x hx => by
    have hx2 : x ∈ ((G ++ [t])).map Fm.enc := by simpa using hx
    obtain ⟨z, hz, rfl⟩ := List.mem_map.1 hx2
    rw [sub_sg σ hs.1 z (hT z hz)]
    have := hs.len (hT z hz)
    have := hlen20 z hz
    omega) (by simp; omega))
  obtain ⟨p1, n1, q1, rfl⟩ := NdsL.shapeL hv
  obtain ⟨p2, n2, q2, rfl⟩ := NdsL.shapeL hu
  obtain ⟨hnc, hncc, hmc⟩ : n2 = (C.map Fm.enc).length ∧ n2 ≤ q2 ∧ q2 ≤ maxLen := by obtain ⟨_, _, e, h1, h2, _⟩ := hu; cases e; exact ⟨rfl, h1, h2⟩
  rw [List.length_map] at hnc
  subst hnc
  unfold maxLen at hmc
  have h8' : ¬ (8 : Int) < C.length := by omega
  have HR := hid hr; clear hr
  have HCc := hid hc; clear hc
  have HT := hid hT; clear hT
  have HL20 := hid hlen20; clear hlen20
  have hN' : ((C.length ^ vs.length : Nat) : Int) ≤ 600 := by omega
  clear hv hu hok hmr hnd hC40
  generalize plainErrs ((G ++ [t]).map Fm.enc) = E1 at *
  generalize plainErrs (C.map Fm.enc) = E2 at *
  generalize hNN : C.length ^ vs.length = N at *
  have hN6 : ¬ (600 : Int) < N := by omega
  clear hNN
  generalize tot ((G ++ [t]).map Fm.enc) = TT at *
  go_enter Tryz.func104, Tryz.ntmps104
  go_wp2_with fail
  refine H1.out.mono ?_; rintro e w2 ⟨rfl, rfl⟩
  go_wp2_with fail
  refine H2.out.mono ?_; rintro e w2 ⟨rfl, rfl⟩
  go_wp2_with fail
  refine HB.out.mono ?_; rintro e w2 ⟨rfl, rfl⟩
  go_wp2_with fail
  refine HV.out.mono ?_; rintro e w2 ⟨v2, rfl, hv2, k2⟩
  have HI2 := hid (hv2.ints (by omega))
  obtain ⟨p3, c3, rfl, _⟩ := hv2.ints (by omega)
  go_wp2_with fail
  refine (HS.out w2 k2).mono ?_; rintro e w3 ⟨rfl, rfl⟩
  go_wp2_with fail
  refine (HCN.out _ w2 k2 HI2.out).mono ?_; rintro e w3 ⟨rfl, rfl⟩
  clear H1 H2 HB HV HS
  go_wp2_with fail
  go_loopw [10] (fun i' wr => ∃ k : Nat, k ≤ N ∧ i' = .int .i64 k ∧ Hid (∀ j, j < k → testC (okB G t) (pickC C vs.reverse j idF) = none) ∧ Keeps w2 wr) (fun i _ => N - (intOf i).toNat)
  case atStart => exact ⟨0, by omega, rfl, fun j h => by omega, Keeps.refl _⟩
  case round =>
    obtain ⟨k, hk, rfl, hno, kw⟩ := hrel
    have k2w := k2.trans kw
    have HCN2 := hid (HCN.out _ wr k2w (HI2.out.keeps kw))
    by_cases hlt : k < N
    · have hlt' : (k : Int) < N := by omega
      have HCH2 := hid (HCH.out k hlt _ wr k2w (HI2.out.keeps kw))
      have hs := HSM.out k
      have hfo := hid (HFO.out k hlt hno.out)
      have hnx := hid (fun (hb : (okB G t) (pickC C vs.reverse k idF) = false) => (show ∀ j, j < k + 1 → testC (okB G t) (pickC C vs.reverse j idF) = none from fun j hj => by
        by_cases e : j = k
        · subst e; exact testC_none.2 hb
        · exact hno.out j (by omega)))
      generalize pickC C vs.reverse k idF = σ at *
      have hs6 : (σ.map Fm.enc).length ≤ 6 := by rw [List.length_map, hs.1]; omega
      have hst : tot (σ.map Fm.enc) ≤ 1000 := by
        have := tot_most (σ.map Fm.enc) 40 (fun x hx => by obtain ⟨y, hy, rfl⟩ := List.mem_map.1 hx; exact hs.2.2 y hy)
        omega
      have hXi := HX.out σ hs
      have hmp : ((G ++ [t]).map Fm.enc).map (sub (σ.map Fm.enc)) = (G.map (sg σ) ++ [sg σ t]).map Fm.enc := by
        rw [show G.map (sg σ) ++ [sg σ t] = (G ++ [t]).map (sg σ) by simp, List.map_map, List.map_map]
        exact List.map_congr_left fun a ha => sub_sg σ hs.1 a (HT.out a ha)
      rw [hmp] at hXi
      have HXi := hid hXi; clear hXi hmp
      have hokG : OkL (G.map (sg σ)) := fun x hx => by
        obtain ⟨y, hy, rfl⟩ := List.mem_map.1 hx
        exact sg_ok hs.2.1 y (HT.out y (by simp [hy]))
      have hokt := sg_ok hs.2.1 t (HT.out t (by simp))
      have hpk := hid (show okB G t σ = (((G.map (sg σ) ++ [sg σ t]).all fun a => decide (a.enc.length ≤ 20)) && brk (G.map (sg σ)) (sg σ t)) by
        unfold okB
        congr 1
        rw [show G.map (sg σ) ++ [sg σ t] = (G ++ [t]).map (sg σ) by simp, List.all_map]; rfl)
      have hGl : (G.map (sg σ)).length ≤ 6 := by simpa using hG6
      have hle : ∀ a ∈ G.map (sg σ) ++ [sg σ t], a.enc.length ≤ 800 := fun a ha => by
        have ha2 : a ∈ (G ++ [t]).map (sg σ) := by simpa using ha
        obtain ⟨y, hy, rfl⟩ := List.mem_map.1 ha2
        have := hs.len (HT.out y hy)
        have := HL20.out y hy
        omega
      have hmk := hid (show tot ((G.map (sg σ) ++ [sg σ t]).map Fm.enc) ≤ 10000 by
        have := tot_most ((G.map (sg σ) ++ [sg σ t]).map Fm.enc) 800 (fun x hx => by obtain ⟨y, hy, rfl⟩ := List.mem_map.1 hx; exact hle y hy)
        rw [List.length_map, List.length_append, List.length_singleton] at this
        omega)
      have hl7 : ((G.map (sg σ) ++ [sg σ t]).map Fm.enc).length ≤ 7 := by rw [List.length_map, List.length_append, List.length_singleton]; omega
      generalize G.map (sg σ) = H at *
      generalize sg σ t = x at *
      generalize hPk : okB G t σ = b at *
      have hall : (H ++ [x]).all (fun a => decide (a.enc.length ≤ 20)) = decide (mostL ((H ++ [x]).map Fm.enc) ≤ 20) := by
        rw [Bool.eq_iff_iff, decide_eq_true_eq, mostL_le, List.all_eq_true]
        constructor
        · intro h y hy
          obtain ⟨a, ha, rfl⟩ := List.mem_map.1 hy
          simpa using h a ha
        · intro h a ha
          simpa using h a.enc (List.mem_map.2 ⟨a, ha, rfl⟩)
      rw [hall] at hpk
      have hmle := hid (mostL_le ((H ++ [x]).map Fm.enc) 20)
      generalize mostL ((H ++ [x]).map Fm.enc) = mm at *
      clear hs hle hall
      go_wp2_with fail
      refine HCN2.out.mono ?_; rintro e w3 ⟨rfl, rfl⟩
      go_wp2_with fail
      refine HCH2.out.mono ?_; rintro e w3 ⟨v3, rfl, hv3, k3⟩
      have hn3 := hv3.ndsL (by omega) (by omega)
      go_wp2_with fail
      refine (HXi.out v3 w3 (k2w.trans k3) hn3).mono ?_; rintro e w4 ⟨v4, rfl, hv4, k4⟩
      have HN4 := hid (hn3.keeps k4)
      have KW := hid ((kw.trans k3).trans k4)
      clear hn3 hv3 HCN2 HCH2 HXi
      by_cases hbig : mm ≤ 20
      · have hb2 : ((mm : Nat) : Int) ≤ 20 := by omega
        have hpk' := hpk.out
        rw [decide_eq_true hbig, Bool.true_and] at hpk'
        clear hpk
        cases hv5 : brk H x with
        | true =>
          rw [hv5] at hpk'
          have hfe := hid (hfo.out hpk')
          have hl20 : ∀ a ∈ H ++ [x], a.enc.length ≤ 20 := fun a ha => hmle.out.1 hbig a.enc (List.mem_map.2 ⟨a, ha, rfl⟩)
          have hL4 : FsL w4 v4 (H ++ [x]) := hv4.ndsL (by omega) (by have := hmk.out; omega)
          have HT5 := hid (l31Breaks_any H x hokG hokt hl20 (by omega) v4 w4 hL4)
          obtain ⟨p4, n4, c4, rfl⟩ := NdsL.shapeL hL4
          clear hL4 hv4 hl20
          rw [hv5] at HT5
          clear hv5 hpk'
          go_wp2_with fail
          refine HT5.out.mono ?_; rintro e w5 ⟨rfl, k5⟩
          go_wp2_with fail
          go_ret2
          exact ⟨_, ret_two (by rw [HCc.out, hfe.out]; rfl), by rw [HR.out, hfe.out]; exact HN4.out.keeps k5, (k2.trans KW.out).trans k5⟩
        | false =>
          rw [hv5] at hpk'
          have hnxt := hid (hnx.out hpk')
          have hl20 : ∀ a ∈ H ++ [x], a.enc.length ≤ 20 := fun a ha => hmle.out.1 hbig a.enc (List.mem_map.2 ⟨a, ha, rfl⟩)
          have hL4 : FsL w4 v4 (H ++ [x]) := hv4.ndsL (by omega) (by have := hmk.out; omega)
          have HT5 := hid (l31Breaks_any H x hokG hokt hl20 (by omega) v4 w4 hL4)
          obtain ⟨p4, n4, c4, rfl⟩ := NdsL.shapeL hL4
          clear hL4 hv4 hl20
          rw [hv5] at HT5
          clear hv5 hpk'
          go_wp2_with fail
          refine HT5.out.mono ?_; rintro e w5 ⟨rfl, k5⟩
          go_wp2_with fail
          go_roundw
          case rel => exact ⟨k + 1, by omega, by go_num, hnxt.out, KW.out.trans k5⟩
          case measure => simp [intOf]; omega
      · have hb2 : ¬ ((mm : Nat) : Int) ≤ 20 := by omega
        have hnxt := hid (hnx.out (by rw [hpk.out, decide_eq_false hbig, Bool.false_and]))
        clear hpk hv4
        go_wp2_with fail
        go_roundw
        case rel => exact ⟨k + 1, by omega, by go_num, hnxt.out, KW.out⟩
        case measure => simp [intOf]; omega
    · obtain rfl : k = N := by omega
      have hlt' : ¬ (k : Int) < k := by omega
      have hlo := hid (HLO.out hno.out)
      go_wp2_with fail
      refine HCN2.out.mono ?_; rintro e w3 ⟨rfl, rfl⟩
      go_wp2_with fail
      go_ret2
      exact ⟨_, ret_two (by rw [HCc.out, hlo.out]; rfl), by rw [HR.out, hlo.out]; exact ndsL_nil _, k2w⟩

end Go.Proofs.YtodeecmhcfbheaaGreat
/- The formulas of a rule with their own header; errors of rules and further formulas. -/
namespace Go.Proofs.YtodeecmhcfbheaaGreat
open Go.RowKit
/-- an append onto a list of lists without spare room: the call's own header -/
theorem run_appClipO (w : World) (ty : TypeId) (p : Option Addr) (n : Nat) (xs : List (List Nd)) (u : Value) (y : List Nd) (q : Addr) (c : Nat) (hv : NdsL w (.slice p n n) xs) (hu : Nds w u y) (hat : At w (some q) [u]) (hlen : xs.length ≤ 2000000) :
    ∃ v' w', (Builtin.append_ #[35, 35] ty #[.slice p n n, .slice (some q) 1 c]).run Tryz.prog w = .ok v' w' ∧ ShL w w' v' (xs ++ [y]) ∧ Keeps w w' := by
  obtain ⟨i0, hi, hz0, hz1, hz2⟩ := info_parts infoL
  obtain ⟨vs, hvs, hrs⟩ := hv.vals
  obtain ⟨p', cap', e, hle, hmx, hlm, _⟩ := hv
  cases e
  have hl := hrs.1
  have hnews : ∀ j z, [u][j]? = some z → w.cell? (q.add j) = some z := by
    intro j z hz
    obtain ⟨hj, rfl⟩ := List.getElem?_eq_some_iff.1 hz
    obtain ⟨b, off, hp, hc⟩ := hat j hj
    cases hp
    have hadd : (⟨b, off, none⟩ : Addr).add j = ⟨b, off + j, none⟩ := by unfold Addr.add; split <;> simp_all
    rw [hadd]; exact hc
  have hrows : RowsS w (vs ++ [u]) (xs ++ [y]) := hrs.append (RowsS.one hu)
  have h1 : ∀ z ∈ [u], z.oneCell' = true := by
    intro z hz
    simp at hz; subst hz
    obtain ⟨p, n, c, e⟩ := hu.shape
    rw [e]; rfl
  cases p with
  | none =>
    have hx : vs = [] := by
      cases vs with
      | nil => rfl
      | cons z l => obtain ⟨b, off, hp, _⟩ := hvs 0 (by simp); cases hp
    subst hx
    have hx0 : xs = [] := List.eq_nil_of_length_eq_zero (by simpa using hl.symm)
    subst hx0
    obtain ⟨v', w', hr, r1, r2, _⟩ := run_append_own (P := Tryz.prog) w w.heap.size 35 ty 24 i0 _ 1 24 Tryz.underlying35 hi hz0 hz1 hz2 rfl (by decide) (.slice none 0 0) 0 [] (World.ownsRow_nil w _ _ 1) q 1 c [u] (by simp) hnews h1 (by simp [maxLen]) (by omega) (Nat.le_refl _)
    exact ⟨v', w', hr, ⟨[u], by simpa using r1, by simpa using hrows⟩, (Keeps.refl w).grown r2 (fun k hk => by simp [Value.ownBlock] at hk)⟩
  | some ad =>
    have holds : ∀ j z, vs[j]? = some z → w.cell? (ad.add j) = some z := by
      intro j z hz
      obtain ⟨hj, rfl⟩ := List.getElem?_eq_some_iff.1 hz
      obtain ⟨b, off, hp, hc⟩ := hvs j hj
      cases hp
      have hadd : (⟨b, off, none⟩ : Addr).add j = ⟨b, off + j, none⟩ := by unfold Addr.add; split <;> simp_all
      rw [hadd]; exact hc
    obtain ⟨v', w', hr, r1, r2⟩ := run_append_arg_grows (P := Tryz.prog) w 35 ty 24 i0 _ 1 24 Tryz.underlying35 hi hz0 hz1 hz2 rfl (by decide) ad xs.length xs.length vs (by simpa using hl) holds q 1 c [u] (by simp) hnews (by omega) (by unfold maxLen; omega) (by omega)
    exact ⟨v', w', hr, ⟨vs ++ [u], by simpa using r1, hrows⟩, (Keeps.refl w).grown r2 (fun k hk => by cases hk)⟩
theorem stepClipO {w : World} {ops : Array Oper} {o : Oper} {a : Act} {K : Act → World → Prop} {Q : Exit → Act → World → Prop} {E : Prop} (hgd : o.guard = none) (s x : Operand)
    (ho : o.op = .call { callee := .builtin .append, args := #[s, x], argTypes := #[35, 35] }) (p : Option Addr) (n : Nat) (xs : List (List Nd)) (hs : a.eval s = .slice p n n) (hv : NdsL w (.slice p n n) xs)
    (u : Value) (y : List Nd) (hu : Nds w u y) (q : Addr) (c : Nat) (hx : a.eval x = .slice (some q) 1 c) (hat : At w (some q) [u]) (hlen : xs.length ≤ 2000000)
    (h : ∀ v' w', ShL w w' v' (xs ++ [y]) → Keeps w w' → K (a.put o.dst v') w') : if Region.wanted o (yielded ops a.tmps) = true then Oper.wp Tryz.prog o a w K Q else E := by
  rw [if_pos (by simp [Region.wanted, hgd])]
  obtain ⟨v', w', hr, h1, h2⟩ := run_appClipO w o.type p n xs u y q c hv hu hat hlen
  unfold Oper.wp execOp
  simp only [ho, resolve, invoke, builtin, Sem.run_bind, Sem.run_pure, Result.andThen_ok, List.map_toArray, List.map_cons, List.map_nil, hs, hx, hr]
  exact h v' w' h1 h2
theorem ShL.low {w0 w1 w : World} {v : Value} {xs : List (List Nd)} (h : ShL w1 w v xs) (k : Keeps w0 w1) : ∃ vs, w.ownsRow w0.heap.size 24 1 v xs.length vs ∧ RowsS w1 vs xs := by
  obtain ⟨vs, ho, hr⟩ := h
  exact ⟨vs, own_mono ho k.size, hr⟩
--
set_option maxRecDepth 20000 in
set_option maxHeartbeats 2000000 in
theorem formulasO_any (xs : List (List Nd)) (c : List Nd) (v u : Value) (w : World) (hv : NdsL w v xs) (hu : Nds w u c) (hl : xs.length ≤ 1000000) :
    Calls Tryz.prog 81 #[.agg #[v, u]] w fun e w' => ∃ v' w1, e = .returned v' ∧ ShL w1 w' v' (xs ++ [c]) ∧ Keeps w w1 ∧ Keeps w1 w' := by
  have hv0 := hv
  obtain ⟨p, cap, rfl, hle, hmx, hlm, _⟩ := hv
  obtain ⟨pu, nu, cu, rfl⟩ := hu.shape
  have k1 := (Keeps.refl w).alloc (.cells #[.slice p xs.length cap, .slice pu nu cu] 37)
  have kl := (k1.alloc (.cells #[.slice pu nu cu] 24)).drew
  have hb0 : (w.alloc (.cells #[.slice p xs.length cap, .slice pu nu cu] 37)).drew.cell? ⟨w.heap.size, 0, none⟩ = some (.slice p xs.length cap) := by show (w.alloc _).cell? _ = _; simp
  have hb1 : (w.alloc (.cells #[.slice p xs.length cap, .slice pu nu cu] 37)).drew.cell? ⟨w.heap.size, 1, none⟩ = some (.slice pu nu cu) := by show (w.alloc _).cell? _ = _; simp
  have ka := (Keeps.refl (w.alloc (.cells #[.slice p xs.length cap, .slice pu nu cu] 37)).drew).alloc (.cells #[.slice pu nu cu] 24)
  have hc0 := ka.cell hb0
  have hc1 := ka.cell hb1
  have hvl := hv0.keeps kl
  have hclip : NdsL ((w.alloc (.cells #[.slice p xs.length cap, .slice pu nu cu] 37)).alloc (.cells #[.slice pu nu cu] 24)).drew (.slice p xs.length xs.length) xs := by
    obtain ⟨p', cap', e, h1, h2, h3, h4⟩ := hvl
    cases e
    exact ⟨p, xs.length, rfl, Nat.le_refl _, by omega, h3, h4⟩
  have hul := hu.keeps kl
  have hatl : At ((w.alloc (.cells #[.slice p xs.length cap, .slice pu nu cu] 37)).alloc (.cells #[.slice pu nu cu] 24)).drew (some ⟨w.heap.size + 1, 0, none⟩) [.slice pu nu cu] := by
    have := (At.lit1 (w.alloc (.cells #[.slice p xs.length cap, .slice pu nu cu] 37)) (.slice pu nu cu) 24).keeps (Keeps.refl _).drew
    rwa [show (w.alloc (.cells #[.slice p xs.length cap, .slice pu nu cu] 37)).heap.size = w.heap.size + 1 by simp] at this
  clear hv0 hvl hu
  go_enter Tryz.func81, Tryz.ntmps81
  go_wp2_with fail
  go_region_held3 (fun w' => w'.cell? ⟨w.heap.size, 0, none⟩ = some (.slice p xs.length cap) ∧ w'.cell? ⟨w.heap.size, 1, none⟩ = some (.slice pu nu cu)) (first | exact ⟨hb0, hb1⟩ | exact ⟨hc0, hc1⟩ | exact ⟨hd0, hd1⟩) (first
    | (go_at_call 106; refine (clip_any _ _ _ _ hle hmx).mono ?_; rintro e w' ⟨rfl, rfl⟩)
    | (refine stepClipO rfl (.tmp 5) (.tmp 8) rfl p xs.length xs rfl hclip _ c hul _ 1 rfl hatl (by omega) ?_; intro v2 w2 hv2 k2; have hd0 := k2.cell hc0; have hd1 := k2.cell hc1))
  all_goals
    go_wp2
    go_ret
    exact ⟨_, _, rfl, hv2, kl, k2⟩
--
/-- the error of a rule and further formulas -/
def ruleErrX (xs : List (List Nd)) (c : List Nd) (cs : List (List Nd)) : Int := if 6 < xs.length then 1 else plainErrs ((xs ++ [c]) ++ cs)
set_option maxRecDepth 20000 in
set_option maxHeartbeats 1000000 in
theorem ruleCode_any (xs : List (List Nd)) (c : List Nd) (cs : List (List Nd)) (v u x : Value) (w : World) (hv : NdsL w v xs) (hu : Nds w u c) (hx : NdsL w x cs) (hcl : cs.length ≤ 2000000) :
    Calls Tryz.prog 78 #[.agg #[v, u], x] w fun e w' => e = .returned (.int .i64 (ruleErrX xs c cs)) ∧ Keeps w w' := by
  have hv0 := hv
  obtain ⟨p, cap, rfl, hle, hmx, hlm, _⟩ := hv
  obtain ⟨pu, nu, cu, rfl⟩ := hu.shape
  obtain ⟨px, nx, cx, rfl⟩ := NdsL.shapeL hx
  unfold maxLen at hmx
  have kb := (Keeps.refl w).alloc (.cells #[.slice p xs.length cap, .slice pu nu cu] 37)
  by_cases h6 : 6 < xs.length
  · have hi6 : (6 : Int) < xs.length := by omega
    go_enter Tryz.func78, Tryz.ntmps78
    go_wp2_with fail
    go_ret
    exact ⟨ret_int (by rw [ruleErrX, if_pos h6]), kb⟩
  · have hi6 : ¬ (6 : Int) < xs.length := by omega
    have H6 := hid h6; clear h6
    have HO := hid (formulasO_any xs c _ _ _ (hv0.keeps kb) (hu.keeps kb) (by have := H6.out; omega))
    obtain ⟨us, hat, hus⟩ := hx.vals
    obtain rfl : nx = cs.length := by obtain ⟨_, _, e, _⟩ := hx; cases e; rfl
    clear hv0
    go_enter Tryz.func78, Tryz.ntmps78
    go_wp2_with fail
    refine HO.out.mono ?_; rintro e w2 ⟨v2, w1, rfl, hv2, k1, k2⟩
    obtain ⟨p2, c2, rfl⟩ := hv2.shape
    rw [show (xs ++ [c]).length = xs.length + 1 by simp] at hv2 ⊢
    go_wp2_with (at_builtin; refine appSh rfl _ _ rfl w1 _ (xs ++ [c]) rfl hv2 px cs.length cx us cs rfl rfl (hat.keeps ((kb.trans k1).trans k2)) (hus.keeps (kb.trans k1)) k2.size (by have := H6.out; simp; omega) ?_; intro v3 w3 hv3 hg3 hr3; have k3 : Keeps w1 w3 := k2.grown hg3 hr3)
    have hL := hv3.ndsL k3 (by have := H6.out; simp; omega)
    refine (plainCode_any _ _ _ hL).mono ?_; rintro e w4 ⟨rfl, k4⟩
    go_wp2_with fail
    go_ret
    exact ⟨ret_int (by rw [ruleErrX, if_neg H6.out]; first | rfl | simp), ((kb.trans k1).trans k3).trans k4⟩
end Go.Proofs.YtodeecmhcfbheaaGreat
/- FindUnifier and FindBreaking: both sides answer alike. (printed by mkzi.py) -/
namespace Go.Proofs.YtodeecmhcfbheaaGreat
open Go.RowKit
theorem Sm.found {P : List Fm → Bool} {C : List Fm} {vs : List Int} (hC : OkL C) (hC40 : ∀ c ∈ C, c.enc.length ≤ 40) (h : ∀ v ∈ vs, (0 : Int) ≤ v) {σ : List Fm} (hf : firstC P C vs idF = some σ) : Sm σ :=
  Sm.of (by have := (firstC_out P C vs h idF σ hf).1.1; rw [this]; rfl) hC hC40 (firstC_mem P C vs idF σ hf)
theorem found_len {P : List Fm → Bool} {C : List Fm} {vs : List Int} (hC : OkL C) (hC40 : ∀ c ∈ C, c.enc.length ≤ 40) (h : ∀ v ∈ vs, (0 : Int) ≤ v) :
    (((firstC P C vs idF).getD []).map Fm.enc).length ≤ 1000 ∧ tot (((firstC P C vs idF).getD []).map Fm.enc) ≤ 1000 := by
  cases hf : firstC P C vs idF with
  | none => simp [tot]
  | some σ =>
    have hs := Sm.found hC hC40 h hf
    have h1 := tot_most (σ.map Fm.enc) 40 (fun x hx => by obtain ⟨y, hy, rfl⟩ := List.mem_map.1 hx; exact hs.2.2 y hy)
    have h2 := hs.1
    simp only [Option.getD_some, List.length_map] at h1 ⊢
    omega
theorem cand_zero {m n : Nat} {s : Bool} (h : candE m n s = 0) : m ≤ 8 ∧ m ^ n ≤ 600 ∧ s = true := by
  unfold candE at h
  split at h
  · omega
  · split at h
    · omega
    · rename_i h1 h2
      refine ⟨by omega, by omega, ?_⟩
      cases s
      · exact absurd (Or.inr rfl) h2
      · rfl
theorem enc_node {l : List Fm} (h : OkL l) : ∀ x ∈ l.map Fm.enc, x.all okNd = true := fun x hx => by
  obtain ⟨y, hy, rfl⟩ := List.mem_map.1 hx
  exact List.all_eq_true.2 (okNd_enc (h y hy).1)

--
set_option maxRecDepth 20000 in
set_option maxHeartbeats 4000000 in
theorem implFindU_err (a : List Nd) (cs : List (List Nd)) (E : Int) (hE : plainErrs (cs ++ [a]) = E) (h0 : E ≠ 0) (v u : Value) (w : World) (hv : Nds w v a) (hu : NdsL w u cs) (hcl : cs.length ≤ 2000000) :
    Calls Tryz.prog 32 #[v, u] w (OwE w [] E) := by
  obtain ⟨p, n, q, rfl⟩ := hv.shape
  obtain ⟨pc, nc, cc, rfl⟩ := NdsL.shapeL hu
  obtain ⟨hncc, hmcc⟩ : nc ≤ cc ∧ cc ≤ maxLen := by obtain ⟨_, _, e, h1, h2, _⟩ := hu; cases e; exact ⟨h1, h2⟩
  have h' : (E != 0) = true := by simp [h0]
  have kA := (((Keeps.refl w).alloc (.cells #[.slice p n q] 24)).alloc (.cells #[.slice p n q] 24)).drew
  have pa : ((w.alloc (.cells #[.slice p n q] 24)).alloc (.cells #[.slice p n q] 24)).drew.cell? ⟨w.heap.size, 0, none⟩ = some (.slice p n q) := by show (World.alloc _ _).cell? _ = _; rw [World.cell?_alloc_lt (h := by simp)]; simp
  have pb : (w.alloc (.cells #[.slice p n q] 24)).drew.cell? ⟨w.heap.size, 0, none⟩ = some (.slice p n q) := by show (World.alloc _ _).cell? _ = _; simp
  have hclip : NdsL ((w.alloc (.cells #[.slice p n q] 24)).alloc (.cells #[.slice p n q] 24)).drew (.slice pc nc nc) cs := by
    obtain ⟨p', cap', e, h1, h2, h3, h4⟩ := hu.keeps kA
    cases e
    exact ⟨pc, cs.length, rfl, Nat.le_refl _, by omega, h3, h4⟩
  have hatl : At ((w.alloc (.cells #[.slice p n q] 24)).alloc (.cells #[.slice p n q] 24)).drew (some ⟨w.heap.size + 1, 0, none⟩) [.slice p n q] := by
    have := (At.lit1 (w.alloc (.cells #[.slice p n q] 24)) (.slice p n q) 24).keeps (Keeps.refl _).drew
    rwa [show (w.alloc (.cells #[.slice p n q] 24)).heap.size = w.heap.size + 1 by simp] at this
  have HCL := hid (fun w2 => clip_any pc nc cc w2 hncc hmcc)
  have hpl := hid (fun v2 w2 (h : NdsL w2 v2 (cs ++ [a])) => plainCode_any (cs ++ [a]) v2 w2 h)
  clear hu h0
  go_enter Tryz.func32, Tryz.ntmps32
  go_wp2_with fail
  go_region_held3 (fun w' => w'.cell? ⟨w.heap.size, 0, none⟩ = some (.slice p n q)) (first | exact pa | exact pb | exact qa | exact qb) (first
    | (go_at_call 106; refine (HCL.out _).mono ?_; rintro e w' ⟨rfl, rfl⟩)
    | (refine stepClipO rfl (.tmp 10) (.tmp 12) rfl pc nc cs rfl hclip _ a (hv.keeps kA) _ 1 rfl hatl hcl ?_; intro v2 w2 hS2 k2; have hv2 := hS2.ndsL k2 (by simp; omega); have qa := k2.cell pa)
    | (go_at_call 62; have hPL := hpl.out _ _ hv2; rw [hE] at hPL; refine hPL.mono ?_; rintro e w3 ⟨rfl, k3⟩; have qb := k3.cell qa))
  all_goals
    have k03 := kA.trans (k2.trans k3)
    go_wp2_with fail
    go_ret2
    exact ⟨_, rfl, OwnL.nil _ _, k03⟩
set_option maxRecDepth 20000 in
set_option maxHeartbeats 4000000 in
theorem implFindU_lim (t : Fm) (ht : OkF t) (_htl : t.enc.length ≤ 40) (cs : List (List Nd)) (hE : plainErrs (cs ++ [t.enc]) = 0) (D : Int) (hD : candE cs.length (mem (vmL [t.enc])).length (decide (t.enc.length ≤ 20)) = D) (h0 : D ≠ 0)
    (v u : Value) (w : World) (hv : Nds w v t.enc) (hu : NdsL w u cs) (hcl : cs.length ≤ 2000000) : Calls Tryz.prog 32 #[v, u] w (OwE w [] D) := by
  generalize ha : t.enc = a at *
  have hnd : a.all okNd = true := by rw [← ha]; exact List.all_eq_true.2 (okNd_enc ht.1)
  obtain ⟨p, n, q, rfl⟩ := hv.shape
  obtain ⟨pc, nc, cc, rfl⟩ := NdsL.shapeL hu
  obtain ⟨hncc, hmcc⟩ : nc ≤ cc ∧ cc ≤ maxLen := by obtain ⟨_, _, e, h1, h2, _⟩ := hu; cases e; exact ⟨h1, h2⟩
  have h' : (D != 0) = true := by simp [h0]
  have HV := hid (fun w2 (k : Keeps w w2) => variablesIn_any [a] _ _ (NdsL.lit1 (hv.keeps k)) (fun x hx => by rw [List.mem_singleton.1 hx]; exact hnd))
  have hml : (mem (vmL [a])).length ≤ 6 := low_len _ 6
  generalize mem (vmL [a]) = vs at *
  have hsm : (!([a].any fun x => decide (20 < x.length))) = decide (a.length ≤ 20) := by rw [Bool.eq_iff_iff]; simp
  have hS := fun w2 (k : Keeps w w2) => haveSmall_any [a] _ _ (NdsL.lit1 (hv.keeps k))
  rw [hsm] at hS
  have HS := hid hS; clear hS hsm
  generalize decide (a.length ≤ 20) = sm at *
  have hC := fun x w2 (k : Keeps w w2) (hx : Ints w2 x vs) => candidateCode_any vs cs sm x (.slice pc nc cc) w2 (hu.keeps k) hx hml
  rw [hD] at hC
  have HCC := hid hC; clear hC
  have kA := (((Keeps.refl w).alloc (.cells #[.slice p n q] 24)).alloc (.cells #[.slice p n q] 24)).drew
  have pa : ((w.alloc (.cells #[.slice p n q] 24)).alloc (.cells #[.slice p n q] 24)).drew.cell? ⟨w.heap.size, 0, none⟩ = some (.slice p n q) := by show (World.alloc _ _).cell? _ = _; rw [World.cell?_alloc_lt (h := by simp)]; simp
  have pb : (w.alloc (.cells #[.slice p n q] 24)).drew.cell? ⟨w.heap.size, 0, none⟩ = some (.slice p n q) := by show (World.alloc _ _).cell? _ = _; simp
  have hclip : NdsL ((w.alloc (.cells #[.slice p n q] 24)).alloc (.cells #[.slice p n q] 24)).drew (.slice pc nc nc) cs := by
    obtain ⟨p', cap', e, h1, h2, h3, h4⟩ := hu.keeps kA
    cases e
    exact ⟨pc, cs.length, rfl, Nat.le_refl _, by omega, h3, h4⟩
  have hatl : At ((w.alloc (.cells #[.slice p n q] 24)).alloc (.cells #[.slice p n q] 24)).drew (some ⟨w.heap.size + 1, 0, none⟩) [.slice p n q] := by
    have := (At.lit1 (w.alloc (.cells #[.slice p n q] 24)) (.slice p n q) 24).keeps (Keeps.refl _).drew
    rwa [show (w.alloc (.cells #[.slice p n q] 24)).heap.size = w.heap.size + 1 by simp] at this
  have HCL := hid (fun w2 => clip_any pc nc cc w2 hncc hmcc)
  have hpl := hid (fun v2 w2 (h : NdsL w2 v2 (cs ++ [a])) => plainCode_any (cs ++ [a]) v2 w2 h)
  clear hu h0 hD ha _htl hnd ht
  go_enter Tryz.func32, Tryz.ntmps32
  go_wp2_with fail
  go_region_held3 (fun w' => w'.cell? ⟨w.heap.size, 0, none⟩ = some (.slice p n q)) (first | exact pa | exact pb | exact qa | exact qb) (first
    | (go_at_call 106; refine (HCL.out _).mono ?_; rintro e w' ⟨rfl, rfl⟩)
    | (refine stepClipO rfl (.tmp 10) (.tmp 12) rfl pc nc cs rfl hclip _ a (hv.keeps kA) _ 1 rfl hatl hcl ?_; intro v2 w2 hS2 k2; have hv2 := hS2.ndsL k2 (by simp; omega); have qa := k2.cell pa)
    | (go_at_call 62; have hPL := hpl.out _ _ hv2; rw [hE] at hPL; refine hPL.mono ?_; rintro e w3 ⟨rfl, k3⟩; have qb := k3.cell qa))
  all_goals
    have k03 := kA.trans (k2.trans k3)
    go_wp2_with fail
    refine (HV.out w3 k03).mono ?_; rintro e w4 ⟨v4, rfl, hv4, k4⟩
    have kB := (Keeps.refl w3).alloc (.cells #[.slice p n q] 24)
    have k04 := k03.trans (kB.trans k4)
    have qc := (kB.trans k4).cell qb
    have HI4 := hid (hv4.ints (by omega))
    obtain ⟨p4, c4, rfl, _⟩ := hv4.ints (by omega)
    go_wp2_with fail
    refine (HS.out w4 k04).mono ?_; rintro e w5 ⟨rfl, k5⟩
    have kC := (Keeps.refl w4).alloc (.cells #[.slice p n q] 24)
    have k05 := k04.trans (kC.trans k5)
    have qd := (kC.trans k5).cell qc
    have HI5 := hid (HI4.out.keeps (kC.trans k5))
    go_wp2_with fail
    refine (HCC.out _ w5 k05 HI5.out).mono ?_; rintro e w6 ⟨rfl, rfl⟩
    go_wp2_with fail
    go_ret2
    exact ⟨_, rfl, OwnL.nil _ _, k05⟩
set_option maxRecDepth 20000 in
set_option maxHeartbeats 4000000 in
theorem implFindU_ok (t : Fm) (ht : OkF t) (htl : t.enc.length ≤ 40) (C : List Fm) (hC : OkL C) (hC40 : ∀ c ∈ C, c.enc.length ≤ 40) (hE : plainErrs (C.map Fm.enc ++ [t.enc]) = 0) (hD : candE (C.map Fm.enc).length (mem (vmL [t.enc])).length (decide (t.enc.length ≤ 20)) = 0)
    (r : List (List Nd)) (c : Int) (hr : r = ((firstC (okU t) C (mem (vmL [t.enc])) idF).getD []).map Fm.enc) (hc : c = if (firstC (okU t) C (mem (vmL [t.enc])) idF).isSome then 0 else 4)
    (v u : Value) (w : World) (hv : Nds w v t.enc) (hu : NdsL w u (C.map Fm.enc)) (hcl : (C.map Fm.enc).length ≤ 2000000) : Calls Tryz.prog 32 #[v, u] w (OwE w r c) := by
  have h8 := (cand_zero hD).1
  rw [List.length_map] at h8
  have hnd : t.enc.all okNd = true := List.all_eq_true.2 (okNd_enc ht.1)
  obtain ⟨p, n, q, rfl⟩ := hv.shape
  obtain ⟨pc, nc, cc, rfl⟩ := NdsL.shapeL hu
  obtain ⟨hncc, hmcc⟩ : nc ≤ cc ∧ cc ≤ maxLen := by obtain ⟨_, _, e, h1, h2, _⟩ := hu; cases e; exact ⟨h1, h2⟩
  have HV := hid (fun w2 (k : Keeps w w2) => variablesIn_any [t.enc] _ _ (NdsL.lit1 (hv.keeps k)) (fun x hx => by rw [List.mem_singleton.1 hx]; exact hnd))
  have hml : (mem (vmL [t.enc])).length ≤ 6 := low_len _ 6
  have hmr := mem_range (vmL [t.enc])
  generalize mem (vmL [t.enc]) = vs at *
  have hsm : (!([t.enc].any fun x => decide (20 < x.length))) = decide (t.enc.length ≤ 20) := by rw [Bool.eq_iff_iff]; simp
  have hS := fun w2 (k : Keeps w w2) => haveSmall_any [t.enc] _ _ (NdsL.lit1 (hv.keeps k))
  rw [hsm] at hS
  have HS := hid hS; clear hS hsm
  generalize decide (t.enc.length ≤ 20) = sm at *
  have HFC := hid (fun b x w2 (k : Keeps w w2) (hx : Ints w2 x vs) (hb : w2.cell? ⟨b, 0, none⟩ = some (.slice p n q)) => firstCandidate_any (okU t) vs C 107 #[.pointer (some ⟨b, 0, none⟩)] w2 x (.slice pc nc cc) hx (hu.keeps k) hmr enters_findU h8 hml hC40
    (fun σ y w3 k3 hy h6 hm => findU_1_any t ht htl σ (Sm.of h6 hC hC40 hm) (.slice p n q) y b w3 (k3.cell hb) (hv.keeps (k.trans k3)) hy))
  rw [← hr, ← hc] at HFC
  generalize hcs : C.map Fm.enc = cs at *
  generalize ha : t.enc = a at *
  have hC2 := fun x w2 (k : Keeps w w2) (hx : Ints w2 x vs) => candidateCode_any vs cs sm x (.slice pc nc cc) w2 (hu.keeps k) hx hml
  rw [hD] at hC2
  have HCC := hid hC2; clear hC2
  have kA := (((Keeps.refl w).alloc (.cells #[.slice p n q] 24)).alloc (.cells #[.slice p n q] 24)).drew
  have pa : ((w.alloc (.cells #[.slice p n q] 24)).alloc (.cells #[.slice p n q] 24)).drew.cell? ⟨w.heap.size, 0, none⟩ = some (.slice p n q) := by show (World.alloc _ _).cell? _ = _; rw [World.cell?_alloc_lt (h := by simp)]; simp
  have pb : (w.alloc (.cells #[.slice p n q] 24)).drew.cell? ⟨w.heap.size, 0, none⟩ = some (.slice p n q) := by show (World.alloc _ _).cell? _ = _; simp
  have hclip : NdsL ((w.alloc (.cells #[.slice p n q] 24)).alloc (.cells #[.slice p n q] 24)).drew (.slice pc nc nc) cs := by
    obtain ⟨p', cap', e, h1, h2, h3, h4⟩ := hu.keeps kA
    cases e
    exact ⟨pc, cs.length, rfl, Nat.le_refl _, by omega, h3, h4⟩
  have hatl : At ((w.alloc (.cells #[.slice p n q] 24)).alloc (.cells #[.slice p n q] 24)).drew (some ⟨w.heap.size + 1, 0, none⟩) [.slice p n q] := by
    have := (At.lit1 (w.alloc (.cells #[.slice p n q] 24)) (.slice p n q) 24).keeps (Keeps.refl _).drew
    rwa [show (w.alloc (.cells #[.slice p n q] 24)).heap.size = w.heap.size + 1 by simp] at this
  have HCL := hid (fun w2 => clip_any pc nc cc w2 hncc hmcc)
  have hpl := hid (fun v2 w2 (h : NdsL w2 v2 (cs ++ [a])) => plainCode_any (cs ++ [a]) v2 w2 h)
  clear hu hD ha htl hnd ht hr hc hcs hC hC40 hmr
  go_enter Tryz.func32, Tryz.ntmps32
  go_wp2_with fail
  go_region_held3 (fun w' => w'.cell? ⟨w.heap.size, 0, none⟩ = some (.slice p n q)) (first | exact pa | exact pb | exact qa | exact qb) (first
    | (go_at_call 106; refine (HCL.out _).mono ?_; rintro e w' ⟨rfl, rfl⟩)
    | (refine stepClipO rfl (.tmp 10) (.tmp 12) rfl pc nc cs rfl hclip _ a (hv.keeps kA) _ 1 rfl hatl hcl ?_; intro v2 w2 hS2 k2; have hv2 := hS2.ndsL k2 (by simp; omega); have qa := k2.cell pa)
    | (go_at_call 62; have hPL := hpl.out _ _ hv2; rw [hE] at hPL; refine hPL.mono ?_; rintro e w3 ⟨rfl, k3⟩; have qb := k3.cell qa))
  all_goals
    have k03 := kA.trans (k2.trans k3)
    go_wp2_with fail
    refine (HV.out w3 k03).mono ?_; rintro e w4 ⟨v4, rfl, hv4, k4⟩
    have kB := (Keeps.refl w3).alloc (.cells #[.slice p n q] 24)
    have k04 := k03.trans (kB.trans k4)
    have qc := (kB.trans k4).cell qb
    have HI4 := hid (hv4.ints (by omega))
    obtain ⟨p4, c4, rfl, _⟩ := hv4.ints (by omega)
    go_wp2_with fail
    refine (HS.out w4 k04).mono ?_; rintro e w5 ⟨rfl, k5⟩
    have kC := (Keeps.refl w4).alloc (.cells #[.slice p n q] 24)
    have k05 := k04.trans (kC.trans k5)
    have qd := (kC.trans k5).cell qc
    have HI5 := hid (HI4.out.keeps (kC.trans k5))
    go_wp2_with fail
    refine (HCC.out _ w5 k05 HI5.out).mono ?_; rintro e w6 ⟨rfl, rfl⟩
    go_wp2_with fail
    refine (HFC.out _ _ w5 k05 HI5.out qd).mono ?_; rintro e w7 ⟨x7, rfl, hx7, k7⟩
    go_wp2_with fail
    go_ret2
    exact ⟨_, rfl, hx7.mono k05.size, k05.trans k7⟩
/-- both sides hand back a list and an error -/
def ListTwo (S I : FuncId) (a : List Nd) (l : List (List Nd)) (r : List (List Nd)) (c : Int) : Prop :=
  (∀ (v u : Value) (w : World), Nds w v a → NdsL w u l → Calls Tryz.prog S #[v, u] w (LsE w r c)) ∧ (∀ (v u : Value) (w : World), Nds w v a → NdsL w u l → Calls Tryz.prog I #[v, u] w (OwE w r c))
theorem LsE.after {a w : World} {r : List (List Nd)} {c : Int} {e : Ending} {w' : World} (h : LsE w r c e w') (k : Keeps a w) : LsE a r c e w' := by
  obtain ⟨x, h1, h2, h3⟩ := h
  exact ⟨x, h1, h2, k.trans h3⟩
--
set_option maxRecDepth 20000 in
set_option maxHeartbeats 1000000 in
theorem specFindU (a : List Nd) (cs : List (List Nd)) (r : List (List Nd)) (c : Int) (hr : ∀ v u w, NdsL w v [a] → NdsL w u cs → Calls Tryz.prog 104 #[v, u, .bool true] w (LsE w r c)) (v u : Value) (w : World) (hv : Nds w v a) (hu : NdsL w u cs) :
    Calls Tryz.prog 29 #[v, u] w (LsE w r c) := by
  obtain ⟨p, n, q, rfl⟩ := hv.shape
  have kA := (Keeps.refl w).alloc (.cells #[.slice p n q] 24)
  have H := hid (hr _ _ _ (NdsL.lit1 hv) (hu.keeps kA))
  obtain ⟨p2, n2, q2, rfl⟩ := NdsL.shapeL hu
  clear hr hu hv
  go_enter Tryz.func29, Tryz.ntmps29
  go_wp2_with fail
  refine H.out.mono ?_; rintro e w2 ⟨x, rfl, hx, k2⟩
  go_wp2_with fail
  go_ret2
  exact ⟨_, rfl, hx, kA.trans k2⟩
theorem tot_one (a : List Nd) : tot [a] = a.length := by simp [tot]
theorem bothFind (a : List Nd) (cs : List (List Nd)) (hcl : cs.length ≤ 2000000) : ∃ r c, r.length ≤ 1000 ∧ tot r ≤ 1000 ∧ ListTwo 29 32 a cs r c := by
  by_cases hE : plainErrs ([a] ++ cs) = 0
  · have hE2 : plainErrs (cs ++ [a]) = 0 := by rw [plainErrs_comm]; exact hE
    obtain ⟨t, hw, rfl, hpl, hl⟩ := plain_tree (plain_each hE a (by simp))
    have hcp := fun x hx => plain_each hE x (List.mem_append.2 (.inr hx))
    have hc40 : ∀ x ∈ cs, x.length ≤ 40 := fun x hx => by obtain ⟨_, _, _, _, h⟩ := plain_tree (hcp x hx); exact h
    obtain ⟨C, rfl, hC⟩ := list_trees hcp
    have hC40 : ∀ c ∈ C, c.enc.length ≤ 40 := fun c hc => hc40 _ (List.mem_map.2 ⟨c, hc, rfl⟩)
    have hnd : ∀ x ∈ [t.enc], x.all okNd = true := fun x hx => by rw [List.mem_singleton.1 hx]; exact List.all_eq_true.2 (okNd_enc hw)
    have hs : decide (tot [t.enc] ≤ 20) = decide (t.enc.length ≤ 20) := by rw [tot_one]
    by_cases hD : candE (C.map Fm.enc).length (mem (vmL [t.enc])).length (decide (t.enc.length ≤ 20)) = 0
    · obtain ⟨h8, hN, h20⟩ := cand_zero hD
      rw [List.length_map] at h8 hN
      have h20' : t.enc.length ≤ 20 := by simpa using h20
      have hb := found_len (P := okU t) (vs := mem (vmL [t.enc])) hC hC40 (fun v hv => by obtain ⟨k, _, rfl⟩ := mem_range _ v hv; omega)
      refine ⟨_, (if (firstC (okU t) C (mem (vmL [t.enc])) idF).isSome then 0 else 4), hb.1, hb.2, fun v u w hv hu => specFindU _ _ _ _ (fun v u w hv hu => ?_) v u w hv hu, fun v u w hv hu => ?_⟩
      · exact l31Search_U t (fun x hx => by rw [List.mem_singleton.1 hx]; exact ⟨hw, hpl⟩) (by rw [tot_one]; exact h20') C hC hC40 h8 hE hN _ _ rfl rfl v u w hv hu
      · exact implFindU_ok t ⟨hw, hpl⟩ hl C hC hC40 hE2 hD _ _ rfl rfl v u w hv hu hcl
    · refine ⟨[], candE (C.map Fm.enc).length (mem (vmL [t.enc])).length (decide (t.enc.length ≤ 20)), by simp, by simp [tot], fun v u w hv hu => specFindU _ _ _ _ (fun v u w hv hu => ?_) v u w hv hu, fun v u w hv hu => ?_⟩
      · have h := l31Search_lim [t.enc] (C.map Fm.enc) true hE hnd (by rw [tot_one]; omega) (by rw [hs]; exact hD) v u w hv hu
        rw [hs] at h
        exact h
      · exact implFindU_lim t ⟨hw, hpl⟩ hl _ hE2 _ rfl hD v u w hv hu hcl
  · refine ⟨[], plainErrs ([a] ++ cs), by simp, by simp [tot], fun v u w hv hu => specFindU _ _ _ _ (fun v u w hv hu => l31Search_err [a] cs true hE v u w hv hu) v u w hv hu, fun v u w hv hu => ?_⟩
    exact implFindU_err a cs _ (plainErrs_comm _ _) hE v u w hv hu hcl
end Go.Proofs.YtodeecmhcfbheaaGreat
/- FindBreaking: both sides answer alike. (printed by mkzj.py) -/
namespace Go.Proofs.YtodeecmhcfbheaaGreat
open Go.RowKit
/-- both sides hand back a list and an error, for a rule and a list -/
def ListRL (S I : FuncId) (xs : List (List Nd)) (c : List Nd) (l : List (List Nd)) (r : List (List Nd)) (k : Int) : Prop :=
  (∀ (v u x : Value) (w : World), NdsL w v xs → Nds w u c → NdsL w x l → Calls Tryz.prog S #[.agg #[v, u], x] w (LsE w r k)) ∧ (∀ (v u x : Value) (w : World), NdsL w v xs → Nds w u c → NdsL w x l → Calls Tryz.prog I #[.agg #[v, u], x] w (OwE w r k))
--
set_option maxRecDepth 20000 in
set_option maxHeartbeats 1000000 in
theorem specFindB_six (xs : List (List Nd)) (c : List Nd) (cs : List (List Nd)) (h6 : 6 < xs.length) (v u x : Value) (w : World) (hv : NdsL w v xs) (hu : Nds w u c) (_hx : NdsL w x cs) :
    Calls Tryz.prog 25 #[.agg #[v, u], x] w (LsE w [] 1) := by
  obtain ⟨p1, q1, rfl, _, hq1, _⟩ := hv
  obtain ⟨p2, n2, q2, rfl⟩ := hu.shape
  have hi6 : (6 : Int) < xs.length := by omega
  have kA := (Keeps.refl w).alloc (.cells #[.slice p1 xs.length q1, .slice p2 n2 q2] 37)
  go_enter Tryz.func25, Tryz.ntmps25
  go_wp2_with fail
  go_ret2
  exact ⟨_, rfl, ndsL_nil _, kA⟩
set_option maxRecDepth 20000 in
set_option maxHeartbeats 1000000 in
theorem specFindB (xs : List (List Nd)) (c : List Nd) (cs : List (List Nd)) (h6 : ¬ 6 < xs.length) (r : List (List Nd)) (k : Int) (hr : ∀ v u w, NdsL w v (xs ++ [c]) → NdsL w u cs → Calls Tryz.prog 104 #[v, u, .bool false] w (LsE w r k))
    (v u x : Value) (w : World) (hv : NdsL w v xs) (hu : Nds w u c) (hx : NdsL w x cs) : Calls Tryz.prog 25 #[.agg #[v, u], x] w (LsE w r k) := by
  have hv0 := hv
  obtain ⟨p1, q1, rfl, _, hq1, _⟩ := hv
  obtain ⟨p2, n2, q2, rfl⟩ := hu.shape
  obtain ⟨p3, n3, q3, rfl⟩ := NdsL.shapeL hx
  have hi6 : ¬ (6 : Int) < xs.length := by omega
  have kA := (Keeps.refl w).alloc (.cells #[.slice p1 xs.length q1, .slice p2 n2 q2] 37)
  have HO := hid (l31Of_any xs c _ _ _ (hv0.keeps kA) (hu.keeps kA) (by omega))
  have H := hid (fun v2 w2 (k2 : Keeps w w2) (h : NdsL w2 v2 (xs ++ [c])) => hr v2 (.slice p3 n3 q3) w2 h (hx.keeps k2))
  have H6 := hid h6; clear h6
  clear hr hv0 hu hx
  go_enter Tryz.func25, Tryz.ntmps25
  go_wp2_with fail
  refine HO.out.mono ?_; rintro e w2 ⟨v2, rfl, hv2, k2⟩
  have hL := hv2.ndsL k2 (by have := H6.out; simp; omega)
  obtain ⟨p4, n4, q4, rfl⟩ := NdsL.shapeL hL
  have HL := hid (H.out _ w2 (kA.trans k2) hL)
  clear hL hv2
  go_wp2_with fail
  refine HL.out.mono ?_; rintro e w3 ⟨y, rfl, hy, k3⟩
  go_wp2_with fail
  go_ret2
  exact ⟨_, rfl, hy, (kA.trans k2).trans k3⟩
--
set_option maxRecDepth 20000 in
set_option maxHeartbeats 4000000 in
theorem implFindB_err (xs : List (List Nd)) (c : List Nd) (cs : List (List Nd)) (E : Int) (hE : ruleErrX xs c cs = E) (h0 : E ≠ 0) (v u x : Value) (w : World) (hv : NdsL w v xs) (hu : Nds w u c) (hx : NdsL w x cs) (hcl : cs.length ≤ 2000000) :
    Calls Tryz.prog 24 #[.agg #[v, u], x] w (OwE w [] E) := by
  have h' : (E != 0) = true := by simp [h0]
  obtain ⟨p1, n1, q1, rfl⟩ := NdsL.shapeL hv
  obtain ⟨p2, n2, q2, rfl⟩ := hu.shape
  obtain ⟨p3, n3, q3, rfl⟩ := NdsL.shapeL hx
  have kA := (Keeps.refl w).alloc (.cells #[.slice p1 n1 q1, .slice p2 n2 q2] 37)
  have pa : (w.alloc (.cells #[.slice p1 n1 q1, .slice p2 n2 q2] 37)).cell? ⟨w.heap.size, 0, none⟩ = some (.slice p1 n1 q1) := by simp
  have pb : (w.alloc (.cells #[.slice p1 n1 q1, .slice p2 n2 q2] 37)).cell? ⟨w.heap.size, 1, none⟩ = some (.slice p2 n2 q2) := by simp
  have hR := ruleCode_any xs c cs _ _ _ _ (hv.keeps kA) (hu.keeps kA) (hx.keeps kA) hcl
  rw [hE] at hR
  have HR := hid hR; clear hR
  clear hv hu hx h0 hE
  go_enter Tryz.func24, Tryz.ntmps24
  go_wp2_with fail
  refine HR.out.mono ?_; rintro e w2 ⟨rfl, k2⟩
  have k02 := kA.trans k2
  obtain ⟨qa, qb⟩ := cells_keeps k2 (And.intro pa pb)
  go_wp2_with fail
  go_ret2
  exact ⟨_, rfl, OwnL.nil _ _, k02⟩
set_option maxRecDepth 20000 in
set_option maxHeartbeats 4000000 in
theorem implFindB_lim (xs : List (List Nd)) (c : List Nd) (cs : List (List Nd)) (hE : ruleErrX xs c cs = 0) (hx6 : xs.length ≤ 6) (hnd : ∀ a ∈ xs ++ [c], a.all okNd = true) (htt : tot (xs ++ [c]) ≤ 1000) (D : Int) (hD : candE cs.length (mem (vmL (xs ++ [c]))).length (decide (tot (xs ++ [c]) ≤ 20)) = D) (h0 : D ≠ 0)
    (v u x : Value) (w : World) (hv : NdsL w v xs) (hu : Nds w u c) (hx : NdsL w x cs) (hcl : cs.length ≤ 2000000) : Calls Tryz.prog 24 #[.agg #[v, u], x] w (OwE w [] D) := by
  have h' : (D != 0) = true := by simp [h0]
  obtain ⟨p1, n1, q1, rfl⟩ := NdsL.shapeL hv
  obtain ⟨p2, n2, q2, rfl⟩ := hu.shape
  obtain ⟨p3, n3, q3, rfl⟩ := NdsL.shapeL hx
  have kA := (Keeps.refl w).alloc (.cells #[.slice p1 n1 q1, .slice p2 n2 q2] 37)
  have pa : (w.alloc (.cells #[.slice p1 n1 q1, .slice p2 n2 q2] 37)).cell? ⟨w.heap.size, 0, none⟩ = some (.slice p1 n1 q1) := by simp
  have pb : (w.alloc (.cells #[.slice p1 n1 q1, .slice p2 n2 q2] 37)).cell? ⟨w.heap.size, 1, none⟩ = some (.slice p2 n2 q2) := by simp
  have hR := ruleCode_any xs c cs _ _ _ _ (hv.keeps kA) (hu.keeps kA) (hx.keeps kA) hcl
  rw [hE] at hR
  have HR := hid hR; clear hR
  have HF := hid (fun w2 (k : Keeps w w2) => formulas_any xs c _ _ w2 (hv.keeps k) (hu.keeps k) (by omega))
  have HV := hid (fun v3 w2 (h : NdsL w2 v3 (xs ++ [c])) => variablesIn_any (xs ++ [c]) v3 w2 h hnd)
  have hml : (mem (vmL (xs ++ [c]))).length ≤ 6 := low_len _ 6
  have HS := hid (fun w2 (k : Keeps w w2) => isSmallRule_any xs c _ _ w2 (hv.keeps k) (hu.keeps k) (by omega) (by omega))
  generalize mem (vmL (xs ++ [c])) = vs at *
  generalize decide (tot (xs ++ [c]) ≤ 20) = sm at *
  have hC2 := fun y w2 (k : Keeps w w2) (hy : Ints w2 y vs) => candidateCode_any vs cs sm y (.slice p3 n3 q3) w2 (hx.keeps k) hy hml
  rw [hD] at hC2
  have HCC := hid hC2; clear hC2
  clear hv hu hx h0 hE hD hnd htt
  go_enter Tryz.func24, Tryz.ntmps24
  go_wp2_with fail
  refine HR.out.mono ?_; rintro e w2 ⟨rfl, k2⟩
  have k02 := kA.trans k2
  obtain ⟨qa, qb⟩ := cells_keeps k2 (And.intro pa pb)
  go_wp2_with fail
  refine (HF.out w2 k02).mono ?_; rintro e w3 ⟨v3, rfl, hv3, k3⟩
  have k03 := k02.trans k3
  obtain ⟨ra, rb⟩ := cells_keeps k3 (And.intro qa qb)
  go_wp2_with fail
  refine (HV.out _ w3 hv3).mono ?_; rintro e w4 ⟨v4, rfl, hv4, k4⟩
  have k04 := k03.trans k4
  obtain ⟨sa, sb⟩ := cells_keeps k4 (And.intro ra rb)
  have HI4 := hid (hv4.ints (by omega))
  obtain ⟨p4, c4, rfl, _⟩ := hv4.ints (by omega)
  clear hv3 hv4
  go_wp2_with fail
  refine (HS.out w4 k04).mono ?_; rintro e w5 ⟨rfl, k5⟩
  have k05 := k04.trans k5
  obtain ⟨ta, tb⟩ := cells_keeps k5 (And.intro sa sb)
  have HI5 := hid (HI4.out.keeps k5)
  go_wp2_with fail
  refine (HCC.out _ w5 k05 HI5.out).mono ?_; rintro e w6 ⟨rfl, rfl⟩
  go_wp2_with fail
  go_ret2
  exact ⟨_, rfl, OwnL.nil _ _, k05⟩
set_option maxRecDepth 20000 in
set_option maxHeartbeats 4000000 in
theorem implFindB_ok (G : List Fm) (t : Fm) (hT : OkL (G ++ [t])) (hl40 : ∀ a ∈ G ++ [t], a.enc.length ≤ 40) (hx6' : G.length ≤ 6) (C : List Fm) (hC : OkL C) (hC40 : ∀ c ∈ C, c.enc.length ≤ 40) (hE : ruleErrX (G.map Fm.enc) t.enc (C.map Fm.enc) = 0)
    (hD : candE (C.map Fm.enc).length (mem (vmL (G.map Fm.enc ++ [t.enc]))).length (decide (tot (G.map Fm.enc ++ [t.enc]) ≤ 20)) = 0) (htt : tot (G.map Fm.enc ++ [t.enc]) ≤ 1000)
    (r : List (List Nd)) (c : Int) (hr : r = ((firstC (okB G t) C (mem (vmL (G.map Fm.enc ++ [t.enc]))) idF).getD []).map Fm.enc) (hc : c = if (firstC (okB G t) C (mem (vmL (G.map Fm.enc ++ [t.enc]))) idF).isSome then 0 else 4)
    (v u x : Value) (w : World) (hv : NdsL w v (G.map Fm.enc)) (hu : Nds w u t.enc) (hx : NdsL w x (C.map Fm.enc)) (hcl : (C.map Fm.enc).length ≤ 2000000) : Calls Tryz.prog 24 #[.agg #[v, u], x] w (OwE w r c) := by
  have h8 := (cand_zero hD).1
  rw [List.length_map] at h8
  have hnd : ∀ a ∈ G.map Fm.enc ++ [t.enc], a.all okNd = true := fun a ha => enc_node hT a (by simpa using ha)
  have hx6 : (G.map Fm.enc).length ≤ 6 := by simpa using hx6'
  have hmr := mem_range (vmL (G.map Fm.enc ++ [t.enc]))
  obtain ⟨p1, n1, q1, rfl⟩ := NdsL.shapeL hv
  obtain ⟨p2, n2, q2, rfl⟩ := hu.shape
  obtain ⟨p3, n3, q3, rfl⟩ := NdsL.shapeL hx
  have kA := (Keeps.refl w).alloc (.cells #[.slice p1 n1 q1, .slice p2 n2 q2] 37)
  have pa : (w.alloc (.cells #[.slice p1 n1 q1, .slice p2 n2 q2] 37)).cell? ⟨w.heap.size, 0, none⟩ = some (.slice p1 n1 q1) := by simp
  have pb : (w.alloc (.cells #[.slice p1 n1 q1, .slice p2 n2 q2] 37)).cell? ⟨w.heap.size, 1, none⟩ = some (.slice p2 n2 q2) := by simp
  have hR := ruleCode_any (G.map Fm.enc) t.enc (C.map Fm.enc) _ _ _ _ (hv.keeps kA) (hu.keeps kA) (hx.keeps kA) hcl
  rw [hE] at hR
  have HR := hid hR; clear hR
  have HF := hid (fun w2 (k : Keeps w w2) => formulas_any (G.map Fm.enc) t.enc _ _ w2 (hv.keeps k) (hu.keeps k) (by omega))
  have HV := hid (fun v3 w2 (h : NdsL w2 v3 (G.map Fm.enc ++ [t.enc])) => variablesIn_any (G.map Fm.enc ++ [t.enc]) v3 w2 h hnd)
  have hml : (mem (vmL (G.map Fm.enc ++ [t.enc]))).length ≤ 6 := low_len _ 6
  have HS := hid (fun w2 (k : Keeps w w2) => isSmallRule_any (G.map Fm.enc) t.enc _ _ w2 (hv.keeps k) (hu.keeps k) (by omega) (by omega))
  generalize mem (vmL (G.map Fm.enc ++ [t.enc])) = vs at *
  generalize decide (tot (G.map Fm.enc ++ [t.enc]) ≤ 20) = sm at *
  have HFC := hid (fun b y w2 (k : Keeps w w2) (hy : Ints w2 y vs) (hb : w2.cell? ⟨b, 0, none⟩ = some (.slice p1 n1 q1)) (hb2 : w2.cell? ⟨b, 1, none⟩ = some (.slice p2 n2 q2)) => firstCandidate_any (okB G t) vs C 103 #[.pointer (some ⟨b, 0, none⟩)] w2 y (.slice p3 n3 q3) hy (hx.keeps k) hmr enters_findB h8 hml hC40
    (fun σ z w3 k3 hz h6 hm => findB_1_any G t hT hl40 hx6' σ (Sm.of h6 hC hC40 hm) (.slice p1 n1 q1) (.slice p2 n2 q2) z b w3 (k3.cell hb) (k3.cell hb2) (hv.keeps (k.trans k3)) (hu.keeps (k.trans k3)) hz))
  rw [← hr, ← hc] at HFC
  have hC2 := fun y w2 (k : Keeps w w2) (hy : Ints w2 y vs) => candidateCode_any vs (C.map Fm.enc) sm y (.slice p3 n3 q3) w2 (hx.keeps k) hy hml
  rw [hD] at hC2
  have HCC := hid hC2; clear hC2
  clear hv hu hx hE hD hnd htt hr hc hC hC40 hmr hT hl40 hcl hx6
  go_enter Tryz.func24, Tryz.ntmps24
  go_wp2_with fail
  refine HR.out.mono ?_; rintro e w2 ⟨rfl, k2⟩
  have k02 := kA.trans k2
  obtain ⟨qa, qb⟩ := cells_keeps k2 (And.intro pa pb)
  go_wp2_with fail
  refine (HF.out w2 k02).mono ?_; rintro e w3 ⟨v3, rfl, hv3, k3⟩
  have k03 := k02.trans k3
  obtain ⟨ra, rb⟩ := cells_keeps k3 (And.intro qa qb)
  go_wp2_with fail
  refine (HV.out _ w3 hv3).mono ?_; rintro e w4 ⟨v4, rfl, hv4, k4⟩
  have k04 := k03.trans k4
  obtain ⟨sa, sb⟩ := cells_keeps k4 (And.intro ra rb)
  have HI4 := hid (hv4.ints (by omega))
  obtain ⟨p4, c4, rfl, _⟩ := hv4.ints (by omega)
  clear hv3 hv4
  go_wp2_with fail
  refine (HS.out w4 k04).mono ?_; rintro e w5 ⟨rfl, k5⟩
  have k05 := k04.trans k5
  obtain ⟨ta, tb⟩ := cells_keeps k5 (And.intro sa sb)
  have HI5 := hid (HI4.out.keeps k5)
  go_wp2_with fail
  refine (HCC.out _ w5 k05 HI5.out).mono ?_; rintro e w6 ⟨rfl, rfl⟩
  go_wp2_with fail
  refine (HFC.out _ _ w5 k05 HI5.out ta tb).mono ?_; rintro e w7 ⟨x7, rfl, hx7, k7⟩
  go_wp2_with fail
  go_ret2
  exact ⟨_, rfl, hx7.mono k05.size, k05.trans k7⟩
--
theorem bothFindR (xs : List (List Nd)) (c : List Nd) (cs : List (List Nd)) (hcl : cs.length ≤ 2000000) : ∃ r k, r.length ≤ 1000 ∧ tot r ≤ 1000 ∧ ListRL 25 24 xs c cs r k := by
  by_cases h6 : 6 < xs.length
  · exact ⟨[], 1, by simp, by simp [tot], fun v u x w hv hu hx => specFindB_six xs c cs h6 v u x w hv hu hx, fun v u x w hv hu hx => implFindB_err xs c cs 1 (by rw [ruleErrX, if_pos h6]) (by decide) v u x w hv hu hx hcl⟩
  have hre : ruleErrX xs c cs = plainErrs ((xs ++ [c]) ++ cs) := by rw [ruleErrX, if_neg h6]
  by_cases hE : plainErrs ((xs ++ [c]) ++ cs) = 0
  · have hall := fun x hx => plain_each hE x (List.mem_append.2 (.inl hx))
    obtain ⟨G, rfl, hG⟩ := list_trees (l := xs) (fun x hx => hall x (List.mem_append.2 (.inl hx)))
    obtain ⟨t, hw, rfl, hpl, hl⟩ := plain_tree (hall c (by simp))
    have hcp := fun x hx => plain_each hE x (List.mem_append.2 (.inr hx))
    have hc40 : ∀ x ∈ cs, x.length ≤ 40 := fun x hx => by obtain ⟨_, _, _, _, h⟩ := plain_tree (hcp x hx); exact h
    obtain ⟨C, rfl, hC⟩ := list_trees hcp
    have hC40 : ∀ c ∈ C, c.enc.length ≤ 40 := fun c hc => hc40 _ (List.mem_map.2 ⟨c, hc, rfl⟩)
    have hT : OkL (G ++ [t]) := fun a ha => (List.mem_append.1 ha).elim (hG a) (fun h => by rw [List.mem_singleton.1 h]; exact ⟨hw, hpl⟩)
    have hl40 : ∀ a ∈ G ++ [t], a.enc.length ≤ 40 := fun a ha => by
      have : a.enc ∈ G.map Fm.enc ++ [t.enc] := by simpa using List.mem_map.2 ⟨a, ha, rfl⟩
      obtain ⟨_, _, _, _, h⟩ := plain_tree (hall _ this)
      exact h
    have hx6 : G.length ≤ 6 := by simp at h6; exact h6
    have hmp : (G ++ [t]).map Fm.enc = G.map Fm.enc ++ [t.enc] := by simp
    have hnd : ∀ a ∈ G.map Fm.enc ++ [t.enc], a.all okNd = true := fun a ha => enc_node hT a (by rw [hmp]; exact ha)
    have htt : tot (G.map Fm.enc ++ [t.enc]) ≤ 1000 := by
      have := tot_most (G.map Fm.enc ++ [t.enc]) 40 (fun x hx => by rw [← hmp] at hx; obtain ⟨y, hy, rfl⟩ := List.mem_map.1 hx; exact hl40 y hy)
      rw [List.length_append, List.length_map, List.length_singleton] at this
      omega
    by_cases hD : candE (C.map Fm.enc).length (mem (vmL (G.map Fm.enc ++ [t.enc]))).length (decide (tot (G.map Fm.enc ++ [t.enc]) ≤ 20)) = 0
    · obtain ⟨h8, hN, h20⟩ := cand_zero hD
      rw [List.length_map] at h8 hN
      have h20' : tot (G.map Fm.enc ++ [t.enc]) ≤ 20 := by simpa using h20
      have hb := found_len (P := okB G t) (vs := mem (vmL (G.map Fm.enc ++ [t.enc]))) hC hC40 (fun v hv => by obtain ⟨k, _, rfl⟩ := mem_range _ v hv; omega)
      refine ⟨_, (if (firstC (okB G t) C (mem (vmL (G.map Fm.enc ++ [t.enc]))) idF).isSome then 0 else 4), hb.1, hb.2, fun v u x w hv hu hx => specFindB _ _ _ h6 _ _ (fun v u w hv hu => ?_) v u x w hv hu hx, fun v u x w hv hu hx => ?_⟩
      · rw [← hmp] at hv hE hN h20' ⊢
        exact l31Search_B G t hT hx6 h20' C hC hC40 h8 hE hN _ _ rfl rfl v u w hv hu
      · exact implFindB_ok G t hT hl40 hx6 C hC hC40 (by rw [hre]; exact hE) hD htt _ _ rfl rfl v u x w hv hu hx hcl
    · refine ⟨[], candE (C.map Fm.enc).length (mem (vmL (G.map Fm.enc ++ [t.enc]))).length (decide (tot (G.map Fm.enc ++ [t.enc]) ≤ 20)), by simp, by simp [tot], fun v u x w hv hu hx => specFindB _ _ _ h6 _ _ (fun v u w hv hu => ?_) v u x w hv hu hx, fun v u x w hv hu hx => ?_⟩
      · exact l31Search_lim (G.map Fm.enc ++ [t.enc]) (C.map Fm.enc) false hE hnd htt hD v u w hv hu
      · exact implFindB_lim _ _ _ (by rw [hre]; exact hE) (by simpa using hx6) hnd htt _ rfl hD v u x w hv hu hx hcl
  · exact ⟨[], plainErrs ((xs ++ [c]) ++ cs), by simp, by simp [tot], fun v u x w hv hu hx => specFindB _ _ _ h6 _ _ (fun v u w hv hu => l31Search_err _ cs false hE v u w hv hu) v u x w hv hu hx, fun v u x w hv hu hx => implFindB_err xs c cs _ hre hE v u x w hv hu hx hcl⟩
end Go.Proofs.YtodeecmhcfbheaaGreat
