/- Plain mathematics: the first of all substitutions by candidates for which a condition holds; counting them. No program in sight. -/
import Derived.Test.YtodeecmhcfbheaaGreatGPl
import Derived.Test.YtodeecmhcfbheaaGreatGM3
import Derived.Test.YtodeecmhcfbheaaGreatGM5
import Derived.Test.YtodeecmhcfbheaaGreatGN1
import Derived.Test.YtodeecmhcfbheaaGreatGSH
import Derived.Test.YtodeecmhcfbheaaGreatGVE
import Derived.Test.YtodeecmhcfbheaaGreatGK8
import Derived.Test.YtodeecmhcfbheaaGreatGYA
import Derived.Test.YtodeecmhcfbheaaGreatGPV
namespace Go.Proofs.YtodeecmhcfbheaaGreat
section
variable {β : Type}
/-- the first substitution by candidates for which P answers yes; the first variable turns slowest -/
def firstC (P : List β → Bool) (cs : List β) : List Int → List β → Option (List β)
  | [], ims => if P ims then some ims else none
  | v :: vs, ims => cs.findSome? fun c => firstC P cs vs (ims.set v.toNat c)
/-- alike but at some variables -/
def Agree (vs : List Int) (a b : List β) : Prop := a.length = b.length ∧ ∀ i : Nat, (i : Int) ∉ vs → a[i]? = b[i]?
theorem Agree.refl (vs : List Int) (a : List β) : Agree vs a a := ⟨rfl, fun _ _ => rfl⟩
theorem Agree.trans {vs : List Int} {a b c : List β} (h : Agree vs a b) (k : Agree vs b c) : Agree vs a c := ⟨h.1.trans k.1, fun i hi => (h.2 i hi).trans (k.2 i hi)⟩
theorem Agree.symm {vs : List Int} {a b : List β} (h : Agree vs a b) : Agree vs b a := ⟨h.1.symm, fun i hi => (h.2 i hi).symm⟩
theorem Agree.nil {a b : List β} (h : Agree [] a b) : a = b := List.ext_getElem? fun i => h.2 i (by simp)
theorem Agree.mono {vs us : List Int} {a b : List β} (h : Agree vs a b) (hs : ∀ x ∈ vs, x ∈ us) : Agree us a b := ⟨h.1, fun i hi => h.2 i (fun e => hi (hs _ e))⟩
theorem Agree.set {v : Int} {vs : List Int} {a b : List β} (h : Agree (v :: vs) a b) (c : β) (hv : 0 ≤ v) : Agree vs (a.set v.toNat c) (b.set v.toNat c) :=
  ⟨by simp [h.1], fun i hi => by
    by_cases e : v.toNat = i
    · subst e
      by_cases hl : v.toNat < a.length
      · rw [List.getElem?_set_self hl, List.getElem?_set_self (by rw [← h.1]; exact hl)]
      · rw [List.getElem?_eq_none (by simp; omega), List.getElem?_eq_none (by have := h.1; simp; omega)]
    · rw [List.getElem?_set_ne e, List.getElem?_set_ne e]
      refine h.2 i (fun hm => ?_)
      rcases List.mem_cons.1 hm with h1 | h1
      · omega
      · exact hi h1⟩
theorem Agree.setL {v : Int} {vs : List Int} (a : List β) (c : β) (hv : 0 ≤ v) : Agree (v :: vs) (a.set v.toNat c) a :=
  ⟨by simp, fun i hi => by
    have : v.toNat ≠ i := fun e => hi (by rw [← e]; simp; omega)
    rw [List.getElem?_set_ne this]⟩
theorem findSome_congr {α γ : Type} {f g : α → Option γ} : ∀ (l : List α), (∀ x ∈ l, f x = g x) → l.findSome? f = l.findSome? g
  | [], _ => rfl
  | x :: l, h => by
    rw [List.findSome?_cons, List.findSome?_cons, h x (by simp), findSome_congr l (fun y hy => h y (by simp [hy]))]
theorem firstC_agree (P : List β → Bool) (cs : List β) : ∀ (vs : List Int), (∀ v ∈ vs, 0 ≤ v) → ∀ a b, Agree vs a b → firstC P cs vs a = firstC P cs vs b
  | [], _, a, b, h => by rw [h.nil]
  | v :: vs, hp, a, b, h => findSome_congr cs fun c _ => firstC_agree P cs vs (fun x hx => hp x (by simp [hx])) _ _ (h.set c (hp v (by simp)))
theorem firstC_at (P : List β → Bool) (cs : List β) (v : Int) (vs : List Int) (a r : List β) : ∀ (j : Nat) (hj : j < cs.length), (∀ t (ht : t < cs.length), t < j → firstC P cs vs (a.set v.toNat cs[t]) = none) → firstC P cs vs (a.set v.toNat cs[j]) = some r → firstC P cs (v :: vs) a = some r := by
  have gen : ∀ (l : List β) (f : β → Option (List β)) (j : Nat) (hj : j < l.length), (∀ t (ht : t < l.length), t < j → f l[t] = none) → f l[j] = some r → l.findSome? f = some r := by
    intro l f
    induction l with
    | nil => intro j hj; simp at hj
    | cons y l ih =>
      intro j hj h1 h2
      cases j with
      | zero => rw [List.findSome?_cons]; simp only [List.getElem_cons_zero] at h2; rw [h2]
      | succ j =>
        have h0 := h1 0 (by simp) (by omega)
        simp only [List.getElem_cons_zero] at h0
        rw [List.findSome?_cons, h0]
        exact ih j (by simpa using hj) (fun t ht htj => by
          have h3 := h1 (t + 1) (by simpa using ht) (by omega)
          simp only [List.getElem_cons_succ] at h3; exact h3) (by simp only [List.getElem_cons_succ] at h2; exact h2)
  intro j hj h1 h2
  exact gen cs _ j hj h1 h2
theorem firstC_end (P : List β → Bool) (cs : List β) (v : Int) (vs : List Int) (a : List β) (h : ∀ t (ht : t < cs.length), firstC P cs vs (a.set v.toNat cs[t]) = none) : firstC P cs (v :: vs) a = none := by
  unfold firstC
  rw [List.findSome?_eq_none_iff]
  intro c hc
  obtain ⟨t, ht, rfl⟩ := List.getElem_of_mem hc
  exact h t ht
/-- what is found agrees with what was there outside the variables -/
theorem firstC_out (P : List β → Bool) (cs : List β) : ∀ (vs : List Int), (∀ v ∈ vs, 0 ≤ v) → ∀ a r, firstC P cs vs a = some r → Agree vs r a ∧ P r = true
  | [], _, a, r, h => by
    unfold firstC at h
    split at h
    · cases h; exact ⟨Agree.refl _ _, by assumption⟩
    · cases h
  | v :: vs, hp, a, r, h => by
    obtain ⟨c, _, h1⟩ := List.exists_of_findSome?_eq_some h
    obtain ⟨h2, h3⟩ := firstC_out P cs vs (fun x hx => hp x (by simp [hx])) _ _ h1
    exact ⟨(h2.mono (fun x hx => by simp [hx])).trans (Agree.setL a c (hp v (by simp))), h3⟩
/-- all of what is found comes from what was there and from the candidates -/
theorem firstC_mem (P : List β → Bool) (cs : List β) : ∀ (vs : List Int) a r, firstC P cs vs a = some r → ∀ x ∈ r, x ∈ a ∨ x ∈ cs
  | [], a, r, h => by
    unfold firstC at h
    split at h
    · cases h; exact fun x hx => .inl hx
    · cases h
  | v :: vs, a, r, h => by
    obtain ⟨c, hc, h1⟩ := List.exists_of_findSome?_eq_some h
    intro x hx
    rcases firstC_mem P cs vs _ _ h1 x hx with h2 | h2
    · rcases List.mem_or_eq_of_mem_set h2 with h3 | h3
      · exact .inl h3
      · exact .inr (h3 ▸ hc)
    · exact .inr h2
/-- the substitution with a number; the variables stand in reverse -/
def pickC (cs : List β) : List Int → Nat → List β → List β
  | [], _, ims => ims
  | v :: vs, n, ims => match cs[n % cs.length]? with
    | none => ims
    | some c => pickC cs vs (n / cs.length) (ims.set v.toNat c)
theorem set_comm {l : List β} {i j : Nat} (h : i ≠ j) (x y : β) : (l.set i x).set j y = (l.set j y).set i x := List.set_comm x y h
theorem pickC_set (cs : List β) (v : Int) (c : β) : ∀ (vs : List Int), (∀ x ∈ vs, x.toNat ≠ v.toNat) → ∀ n ims, pickC cs vs n (ims.set v.toNat c) = (pickC cs vs n ims).set v.toNat c
  | [], _, n, ims => rfl
  | u :: vs, h, n, ims => by
    simp only [pickC]
    cases cs[n % cs.length]? with
    | none => rfl
    | some d =>
      simp only []
      rw [set_comm (h u (by simp)).symm, pickC_set cs v c vs (fun x hx => h x (by simp [hx]))]
theorem pickC_snoc (cs : List β) (hc : 0 < cs.length) (v : Int) : ∀ (vs : List Int) n ims, pickC cs (vs ++ [v]) n ims = (pickC cs vs n ims).set v.toNat (cs[(n / cs.length ^ vs.length) % cs.length]'(Nat.mod_lt _ hc))
  | [], n, ims => by
    have h1 : n % cs.length < cs.length := Nat.mod_lt _ hc
    simp [pickC, h1]
  | u :: vs, n, ims => by
    have h1 : n % cs.length < cs.length := Nat.mod_lt _ hc
    simp only [List.cons_append, pickC, List.getElem?_eq_getElem h1]
    rw [pickC_snoc cs hc v vs]
    congr 2
    rw [Nat.div_div_eq_div_mul, List.length_cons, Nat.pow_succ, Nat.mul_comm]
theorem pickC_mod (cs : List β) (hc : 0 < cs.length) : ∀ (vs : List Int) (k n : Nat) ims, vs.length ≤ k → pickC cs vs (n % cs.length ^ k) ims = pickC cs vs n ims
  | [], k, n, ims, _ => rfl
  | u :: vs, 0, n, ims, h => by simp at h
  | u :: vs, k + 1, n, ims, h => by
    have h1 : n % cs.length < cs.length := Nat.mod_lt _ hc
    have e1 : n % cs.length ^ (k + 1) % cs.length = n % cs.length := Nat.mod_mod_of_dvd n ⟨cs.length ^ k, by rw [Nat.pow_succ, Nat.mul_comm]⟩
    have e2 : n % cs.length ^ (k + 1) / cs.length = (n / cs.length) % cs.length ^ k := by
      rw [Nat.pow_succ, Nat.mul_comm, Nat.mod_mul_right_div_self]
    simp only [pickC, e1, e2, List.getElem?_eq_getElem h1]
    exact pickC_mod cs hc vs k _ _ (by simpa using h)
theorem findSome_range_mul {γ : Type} (f : Nat → Option γ) (K : Nat) : ∀ n, (List.range (n * K)).findSome? f = (List.range n).findSome? fun q => (List.range K).findSome? fun r => f (q * K + r)
  | 0 => by simp
  | n + 1 => by
    rw [List.range_succ, List.findSome?_append, ← findSome_range_mul f K n, Nat.succ_mul, List.range_add, List.findSome?_append, List.findSome?_map]
    congr 1
    simp only [List.findSome?_cons, List.findSome?_nil]
    have : (f ∘ fun x => n * K + x) = fun r => f (n * K + r) := rfl
    rw [this]
    cases (List.range K).findSome? (fun r => f (n * K + r)) <;> rfl
theorem findSome_range_get {γ : Type} (g : β → Option γ) : ∀ (cs : List β), (List.range cs.length).findSome? (fun q => (cs[q]?).bind g) = cs.findSome? g := by
  intro cs
  induction cs with
  | nil => rfl
  | cons c cs ih =>
    rw [List.length_cons, List.range_succ_eq_map, List.findSome?_cons, List.findSome?_cons, List.findSome?_map, ← ih]
    rfl
/-- a test of one substitution -/
def testC (P : List β → Bool) (ims : List β) : Option (List β) := if P ims then some ims else none
/-- all numbers in order find the same -/
theorem firstC_pick (P : List β → Bool) (cs : List β) (hc : 0 < cs.length) : ∀ (vs : List Int), (vs.map Int.toNat).Nodup → ∀ ims,
    firstC P cs vs ims = (List.range (cs.length ^ vs.length)).findSome? fun n => testC P (pickC cs vs.reverse n ims)
  | [], _, ims => by simp [firstC, testC, pickC, List.range_succ]
  | v :: vs, hn, ims => by
    have hn' : v.toNat ∉ vs.map Int.toNat ∧ (vs.map Int.toNat).Nodup := by simpa using hn
    have hne : ∀ x ∈ vs.reverse, x.toNat ≠ v.toNat := fun x hx e => hn'.1 (List.mem_map.2 ⟨x, by simpa using hx, e⟩)
    rw [List.length_cons, Nat.pow_succ, Nat.mul_comm, findSome_range_mul, firstC, ← findSome_range_get]
    refine findSome_congr _ fun q hq => ?_
    have hq' : q < cs.length := List.mem_range.1 hq
    rw [List.getElem?_eq_getElem hq', Option.bind_some, firstC_pick P cs hc vs hn'.2]
    refine findSome_congr _ fun r hr => ?_
    have hr' : r < cs.length ^ vs.length := List.mem_range.1 hr
    have hK : 0 < cs.length ^ vs.length := Nat.pow_pos hc
    rw [List.reverse_cons, pickC_snoc cs hc v, pickC_set cs v _ _ hne]
    have e1 : (q * cs.length ^ vs.length + r) / cs.length ^ vs.reverse.length % cs.length = q := by
      rw [List.length_reverse, Nat.mul_comm, Nat.mul_add_div hK, Nat.div_eq_of_lt hr', Nat.add_zero, Nat.mod_eq_of_lt hq']
    have e2 : pickC cs vs.reverse (q * cs.length ^ vs.length + r) ims = pickC cs vs.reverse r ims := by
      rw [← pickC_mod cs hc vs.reverse vs.length (q * cs.length ^ vs.length + r) ims (by simp), Nat.mul_comm, Nat.mul_add_mod, Nat.mod_eq_of_lt hr']
    simp only [e1, e2]
/-- no candidate, but a variable: nothing is found -/
theorem firstC_none (P : List β → Bool) (vs : List Int) (hv : 0 < vs.length) (ims : List β) : firstC P [] vs ims = none := by
  cases vs with
  | nil => simp at hv
  | cons v vs => rfl
theorem findSome_range_at {γ : Type} (f : Nat → Option γ) (r : γ) : ∀ (N k : Nat), k < N → (∀ j, j < k → f j = none) → f k = some r → (List.range N).findSome? f = some r
  | 0, k, h, _, _ => by omega
  | N + 1, k, h, hn, hf => by
    rw [List.range_succ, List.findSome?_append]
    by_cases e : k < N
    · rw [findSome_range_at f r N k e hn hf]; rfl
    · obtain rfl : k = N := by omega
      have : (List.range k).findSome? f = none := by
        rw [List.findSome?_eq_none_iff]; intro j hj; exact hn j (by simpa using hj)
      rw [this, List.findSome?_cons, hf]; rfl
theorem pow_posC {m n : Nat} {k : Nat} (h : k < m ^ n) : n = 0 ∨ 0 < m := by
  rcases Nat.eq_zero_or_pos n with e | e
  · exact .inl e
  · rcases Nat.eq_zero_or_pos m with e2 | e2
    · subst e2
      rw [Nat.zero_pow e] at h; omega
    · exact .inr e2
theorem firstC_found (P : List β → Bool) (cs : List β) (vs : List Int) (hd : (vs.map Int.toNat).Nodup) (ims : List β) (k : Nat) (hk : k < cs.length ^ vs.length)
    (hn : ∀ j, j < k → testC P (pickC cs vs.reverse j ims) = none) (h : P (pickC cs vs.reverse k ims) = true) : firstC P cs vs ims = some (pickC cs vs.reverse k ims) := by
  have hf : testC P (pickC cs vs.reverse k ims) = some (pickC cs vs.reverse k ims) := by unfold testC; rw [if_pos h]
  rcases pow_posC hk with e | e
  · obtain rfl := List.eq_nil_of_length_eq_zero e
    have hp : P ims = true := h
    simp [firstC, pickC, hp]
  · rw [firstC_pick P cs e vs hd]
    exact findSome_range_at _ _ _ k hk hn hf
theorem firstC_lost (P : List β → Bool) (cs : List β) (vs : List Int) (hd : (vs.map Int.toNat).Nodup) (ims : List β)
    (hn : ∀ j, j < cs.length ^ vs.length → testC P (pickC cs vs.reverse j ims) = none) : firstC P cs vs ims = none := by
  rcases Nat.eq_zero_or_pos vs.length with e | e
  · obtain rfl := List.eq_nil_of_length_eq_zero e
    have := hn 0 (by simp)
    unfold testC at this
    simp only [List.reverse_nil, pickC] at this
    unfold firstC
    exact this
  · rcases Nat.eq_zero_or_pos cs.length with e2 | e2
    · obtain rfl := List.eq_nil_of_length_eq_zero e2
      exact firstC_none P vs e ims
    · rw [firstC_pick P cs e2 vs hd, List.findSome?_eq_none_iff]
      intro j hj
      exact hn j (by simpa using hj)
theorem testC_none {P : List β → Bool} {ims : List β} : testC P ims = none ↔ P ims = false := by
  unfold testC
  cases P ims <;> simp
theorem pickC_mem (cs : List β) : ∀ (vs : List Int) n a, ∀ x ∈ pickC cs vs n a, x ∈ a ∨ x ∈ cs
  | [], _, a => fun x hx => .inl hx
  | v :: vs, n, a => by
    intro x hx
    simp only [pickC] at hx
    cases hg : cs[n % cs.length]? with
    | none => rw [hg] at hx; exact .inl hx
    | some c =>
      rw [hg] at hx
      rcases pickC_mem cs vs _ _ x hx with h2 | h2
      · rcases List.mem_or_eq_of_mem_set h2 with h3 | h3
        · exact .inl h3
        · exact .inr (h3 ▸ List.mem_of_getElem? hg)
      · exact .inr h2
theorem pickC_len (cs : List β) : ∀ (vs : List Int) n a, (pickC cs vs n a).length = a.length
  | [], _, _ => rfl
  | v :: vs, n, a => by
    simp only [pickC]
    cases cs[n % cs.length]? with
    | none => rfl
    | some c => simp [pickC_len cs vs]
end
/-- how many substitutions there are, but at most 601 -/
def cap601 (m : Nat) : Nat → Nat
  | 0 => 1
  | k + 1 => min (cap601 m k * m) 601
theorem cap601_eq (m : Nat) : ∀ k, cap601 m k = min (m ^ k) 601
  | 0 => by simp [cap601]
  | k + 1 => by
    have h := cap601_eq m k
    rw [cap601, h, Nat.pow_succ]
    by_cases h1 : m ^ k ≤ 601
    · rw [Nat.min_eq_left h1]
    · have h2 : 601 ≤ m ^ k := by omega
      rw [Nat.min_eq_right h2]
      rcases Nat.eq_zero_or_pos m with h0 | h0
      · subst h0; simp
      · have h3 : m ^ k ≤ m ^ k * m := Nat.le_mul_of_pos_right _ h0
        have h4 : 601 ≤ 601 * m := Nat.le_mul_of_pos_right _ h0
        omega
end Go.Proofs.YtodeecmhcfbheaaGreat
/- Walks: the variables of lists of formulas, on both sides. -/
namespace Go.Proofs.YtodeecmhcfbheaaGreat
open Go.RowKit
/-- the mask of the variables of formulas -/
def vmL (l : List (List Nd)) : Nat := l.foldl (fun m a => m ||| vm a) 0
theorem vmL_take (l : List (List Nd)) (k : Nat) (h : k < l.length) : vmL (l.take (k + 1)) = vmL (l.take k) ||| vm l[k] := by
  unfold vmL; rw [List.take_succ_eq_append_getElem h, List.foldl_append]; rfl
theorem vm_64 {a : List Nd} (h : a.all okNd = true) : vm a < 64 := by
  have := vm_lt h a.length (Nat.le_refl _)
  rwa [List.take_length] at this
theorem vmL_lt {l : List (List Nd)} (h : ∀ a ∈ l, a.all okNd = true) : ∀ k, k ≤ l.length → vmL (l.take k) < 64
  | 0, _ => by simp [vmL]
  | k + 1, hk => by
    rw [vmL_take l k (by omega)]
    exact Nat.or_lt_two_pow (n := 6) (vmL_lt h k (by omega)) (vm_64 (h _ (List.getElem_mem (by omega))))
theorem vmL_one (a : List Nd) : vmL [a] = vm a := by simp [vmL]
theorem or64 : ∀ (m n : Fin 64), bits BinOp.or IntKind.i64 ((m : Nat) : Int) ((n : Nat) : Int) = (((m : Nat) ||| (n : Nat) : Nat) : Int) := by decide +kernel
theorem mem_nodup : ∀ m : Fin 64, ((mem m).map Int.toNat).Nodup := by decide +kernel
theorem mem_or : ∀ (m n : Fin 64), (mem n).foldl (fun acc i => acc ||| 2 ^ i.toNat) (m : Nat) = (m : Nat) ||| (n : Nat) := by decide +kernel
theorem mem_fold_lt (l : List Int) (h : ∀ x ∈ l, ∃ k : Nat, k < 6 ∧ x = k) : ∀ m, m < 64 → l.foldl (fun acc i => acc ||| 2 ^ i.toNat) m < 64 := by
  induction l with
  | nil => intro m hm; exact hm
  | cons x l ih =>
    intro m hm
    obtain ⟨k, hk, rfl⟩ := h x (by simp)
    exact ih (fun y hy => h y (by simp [hy])) _ (or_lt ⟨m, hm⟩ ⟨k, hk⟩)
--
set_option maxRecDepth 20000 in
set_option maxHeartbeats 1000000 in
theorem variablesIn_any (l : List (List Nd)) (v : Value) (w : World) (hv : NdsL w v l) (ha : ∀ a ∈ l, a.all okNd = true) : Calls Tryz.prog 100 #[v] w (RetI w (mem (vmL l))) := by
  have hv0 := hv
  obtain ⟨p, cap, rfl, hle, hmx, hlen, _⟩ := hv
  unfold maxLen at hmx
  have HA := hid ha
  have HL := hid (vmL_lt ha); clear ha
  have HM := hid (fun w2 => membersOf_any (vmL l) w2 (by have := HL.out l.length (Nat.le_refl _); rwa [List.take_length] at this))
  go_enter Tryz.func100, Tryz.ntmps100
  go_wp2
  go_loopw [3, 8] (fun c i' wr => ∃ k : Nat, k ≤ l.length ∧ i' = .int .i64 k ∧ c = .int .i64 (vmL (l.take k)) ∧ Keeps w wr) (fun _ i _ => l.length - (intOf i).toNat)
  case atStart => exact ⟨0, by omega, rfl, rfl, Keeps.refl w⟩
  case round =>
    obtain ⟨k, hk, rfl, rfl, kw⟩ := hrel
    by_cases hlt : k < l.length
    · have hlt' : (k : Int) < l.length := by omega
      obtain ⟨b, off, u, rfl, hc, hu⟩ := (NdsL.keeps hv0 kw).get k hlt
      obtain ⟨pu, nu, cu, rfl⟩ := hu.shape
      have hok := HA.out _ (List.getElem_mem hlt)
      have hst := vmL_take l k hlt
      have hor := or64 ⟨vmL (l.take k), HL.out k hk⟩ ⟨vm l[k], vm_64 hok⟩
      simp only at hor
      rw [← hst] at hor
      have HV := hid (variableMask_any l[k] _ wr hu hok)
      have HO := hid hor; clear hor hst hu hok hv0
      generalize vm l[k] = y at *
      generalize vmL (l.take k) = x at *
      go_wp2_with fail
      refine HV.out.mono ?_; rintro e w2 ⟨rfl, k2⟩
      go_wp2_with fail
      go_roundw
      case rel => exact ⟨k + 1, by omega, by go_num, by rw [HO.out], kw.trans k2⟩
      case measure => simp [intOf]; omega
    · obtain rfl : k = l.length := by omega
      have hlt' : ¬ (l.length : Int) < l.length := by omega
      rw [List.take_length]
      go_wp2_with fail
      refine (HM.out _).mono ?_; rintro e w2 ⟨v2, rfl, hv2, k2⟩
      go_wp2_with fail
      go_ret
      exact ⟨_, rfl, hv2.mono kw.size, kw.trans k2⟩
--
set_option maxRecDepth 20000 in
set_option maxHeartbeats 1000000 in
theorem l06Variables_any (l : List (List Nd)) (v : Value) (w : World) (hv : NdsL w v l) (ha : ∀ a ∈ l, a.all okNd = true) : Calls Tryz.prog 186 #[v] w (RetI w (mem (vmL l))) := by
  have hv0 := hv
  obtain ⟨p, cap, rfl, hle, hmx, hlen, _⟩ := hv
  unfold maxLen at hmx
  have HA := hid ha
  have HL := hid (vmL_lt ha); clear ha
  have HM := hid (fun w2 => l01List_any (vmL l) w2 (by have := HL.out l.length (Nat.le_refl _); rwa [List.take_length] at this))
  go_enter Tryz.func186, Tryz.ntmps186
  go_wp2
  go_loopw [3, 4] (fun c i' wr => ∃ k : Nat, k ≤ l.length ∧ i' = .int .i64 k ∧ c = .int .i64 (vmL (l.take k)) ∧ Keeps w wr) (fun _ i _ => l.length - (intOf i).toNat)
  case atStart => exact ⟨0, by omega, rfl, rfl, Keeps.refl w⟩
  case round =>
    obtain ⟨k, hk, rfl, rfl, kw⟩ := hrel
    by_cases hlt : k < l.length
    · have hlt' : (k : Int) < l.length := by omega
      obtain ⟨b, off, u, rfl, hc, hu⟩ := (NdsL.keeps hv0 kw).get k hlt
      obtain ⟨pu, nu, cu, rfl⟩ := hu.shape
      have hok := HA.out _ (List.getElem_mem hlt)
      have hx := HL.out k hk
      have hst := vmL_take l k hlt
      have hmo := mem_or ⟨vmL (l.take k), hx⟩ ⟨vm l[k], vm_64 hok⟩
      simp only at hmo
      rw [← hst] at hmo
      have HO := hid hmo
      have HR := hid (mem_range (vm l[k]))
      have hml := low_len (vm l[k]) 6
      change (mem (vm l[k])).length ≤ 6 at hml
      have HV := hid (l02Variables_any l[k] _ wr hu hok)
      clear hst hmo hu hok
      generalize mem (vm l[k]) = M at *
      generalize vmL (l.take k) = x at *
      go_wp2_with fail
      refine HV.out.mono ?_; rintro e w2 ⟨v2, rfl, hv2, k2⟩
      obtain ⟨p2, c2, rfl, _, hm2, hat2, _⟩ := hv2.ints (by omega)
      unfold maxLen at hm2
      have HT := hid hat2; clear hat2
      have kw2 := hid (kw.trans k2)
      go_wp2_with fail
      go_loop [3, 6] (fun c i' => ∃ j : Nat, j ≤ M.length ∧ i' = .int .i64 j ∧ c = .int .i64 ((M.take j).foldl (fun acc i => acc ||| 2 ^ i.toNat) x : Nat)) (fun _ i => M.length - (intOf i).toNat)
      case atStart => exact ⟨0, by omega, rfl, rfl⟩
      case round =>
        obtain ⟨j, hj, rfl, rfl⟩ := hrel
        by_cases hjt : j < M.length
        · have hjt' : (j : Int) < M.length := by omega
          obtain ⟨b2, o2, rfl, hc2⟩ := HT.out.int j hjt
          obtain ⟨s, hs6, hs⟩ := HR.out M[j] (List.getElem_mem hjt)
          have hf : (M.take (j + 1)).foldl (fun acc i => acc ||| 2 ^ i.toNat) x = (M.take j).foldl (fun acc i => acc ||| 2 ^ i.toNat) x ||| 2 ^ s := by
            rw [List.take_succ_eq_append_getElem hjt, List.foldl_append, hs]; rfl
          have hlt64 := mem_fold_lt (M.take j) (fun y hy => HR.out y (List.mem_of_mem_take hy)) x hx
          have hor := or_table ⟨_, hlt64⟩ ⟨s, hs6⟩
          simp only at hor
          rw [← hf] at hor
          have HF := hid hor; clear hor hf
          rw [hs] at hc2
          generalize (M.take j).foldl (fun acc i => acc ||| 2 ^ i.toNat) x = z at *
          have H1 := hid (l01One_any (s : Int) w2 (by omega) (by omega))
          go_wp2_with fail
          refine H1.out.mono ?_; rintro e w3 ⟨rfl, rfl⟩
          go_wp2_with fail
          go_round
          case rel => exact ⟨j + 1, by omega, by go_num, by rw [← HF.out]⟩
          case measure => simp [intOf]; omega
        · obtain rfl : j = M.length := by omega
          have hjt' : ¬ (M.length : Int) < M.length := by omega
          rw [List.take_length, HO.out]
          go_wp2_with fail
          go_roundw
          case rel => exact ⟨k + 1, by omega, by go_num, rfl, kw2.out⟩
          case measure => simp [intOf]; omega
    · obtain rfl : k = l.length := by omega
      have hlt' : ¬ (l.length : Int) < l.length := by omega
      rw [List.take_length]
      go_wp2_with fail
      refine (HM.out _).mono ?_; rintro e w2 ⟨v2, rfl, hv2, k2⟩
      go_wp2_with fail
      go_ret
      exact ⟨_, rfl, hv2.mono kw.size, kw.trans k2⟩
end Go.Proofs.YtodeecmhcfbheaaGreat
/- The program's firstCandidate: rows that are shared and written, the closure that calls itself. -/
namespace Go.Proofs.YtodeecmhcfbheaaGreat
open Go.RowKit
/-- the identical substitution, as formulas -/
def idF : List Fm := [.var 0, .var 1, .var 2, .var 3, .var 4, .var 5]
theorem idF_enc : idL 6 = idF.map Fm.enc := rfl
theorem idF_ok : OkL idF := by
  intro a ha
  simp [idF] at ha
  rcases ha with rfl | rfl | rfl | rfl | rfl | rfl <;> exact ⟨by simp [Fm.wf], rfl⟩
/-- a list of nodes that does not lie in a block -/
def Far (g : Nat) (w : World) (v : Value) (a : List Nd) : Prop := Nds w v a ∧ ∀ ad n c, v = .slice (some ad) n c → ad.block ≠ g
theorem Far.keeps {g : Nat} {w w' : World} {v : Value} {a : List Nd} (h : Far g w v a) (k : Keeps w w') : Far g w' v a := ⟨h.1.keeps k, h.2⟩
theorem Far.touch {g : Nat} {w w' : World} {v : Value} {a : List Nd} (h : Far g w v a) (k : Touch w w' (fun i => i = g)) : Far g w' v a := by
  obtain ⟨⟨p, cap, rfl, h1, h2, h3, h4⟩, hf⟩ := h
  refine ⟨⟨p, cap, rfl, h1, h2, fun j hj => ?_, h4⟩, hf⟩
  obtain ⟨b, off, hp, hc⟩ := h3 j hj
  subst hp
  exact ⟨b, off, rfl, by rw [(k.cell (World.block_lt_of_cell? _ _ hc) (hf ⟨b, off, none⟩ _ _ rfl)).1]; exact hc⟩
/-- what lies below a block does not lie in it -/
theorem Far.below {g : Nat} {w : World} {t : Fm} {v : Value} (h : Nds w v t.enc) (hg : w.heap.size ≤ g) : Far g w v t.enc := by
  refine ⟨h, fun ad n c e => ?_⟩
  obtain ⟨b, off, n', cap', e', _, _, _, _, hc, _⟩ := h.root
  rw [e'] at e
  cases e
  have := World.block_lt_of_cell? _ _ hc
  simp only at this ⊢
  omega
theorem Far.own {g B : Nat} {w : World} {v u : Value} {n : Nat} {vs : List Value} {a : List Nd} (h : OwnN w B v a) (ho : w.ownsRow B 24 1 u n vs) (hu : u.ownBlock = some g) (hl : a.length ≤ 2147483648) : Far g w v a := by
  refine ⟨h.nds hl, fun ad n c e => ?_⟩
  subst e
  obtain ⟨p, cap, e, _⟩ := At.of_own h
  intro hb
  have h2 : (Value.slice (some ad) n c).ownBlock = some g := by simp [Value.ownBlock, hb]
  exact type_ne ho h tyne hu h2
/-- the row of images: the call's own header, rows that are shared -/
def Row (w : World) (B g cap : Nat) (us : List Value) (σ : List Fm) : Prop :=
  w.ownsRow B 24 1 (.slice (some ⟨g, 0, none⟩) 6 cap) 6 us ∧ us.length = σ.length ∧ ∀ i (h1 : i < us.length) (h2 : i < σ.length), Far g w us[i] σ[i].enc
theorem Row.keeps {w w' : World} {B g cap : Nat} {us : List Value} {σ : List Fm} (h : Row w B g cap us σ) (k : Keeps w w') : Row w' B g cap us σ := ⟨own_keeps h.1 k, h.2.1, fun i h1 h2 => (h.2.2 i h1 h2).keeps k⟩
theorem Row.len {w : World} {B g cap : Nat} {us : List Value} {σ : List Fm} (h : Row w B g cap us σ) : σ.length = 6 := by
  have h1 := h.1.1
  have h2 := h.2.1
  omega
theorem Row.lt {w : World} {B g cap : Nat} {us : List Value} {σ : List Fm} (h : Row w B g cap us σ) : B ≤ g ∧ g < w.heap.size := World.ownsRow.lt h.1 g rfl
theorem Row.ndsL {w : World} {B g cap : Nat} {us : List Value} {σ : List Fm} (h : Row w B g cap us σ) : NdsL w (.slice (some ⟨g, 0, none⟩) 6 cap) (σ.map Fm.enc) := by
  have hl := h.len
  obtain ⟨p, cap', e, h1, h2, hat⟩ := At.of_own h.1
  cases e
  have := ndsL_of (w := w) (xs := σ.map Fm.enc) hat ⟨by rw [List.length_map]; exact h.2.1, fun i h1 h2 => by
    rw [List.getElem_map]; exact (h.2.2 i h1 (by simpa using h2)).1⟩ (by rw [List.length_map, hl]; exact h1) h2 (by rw [List.length_map, hl]; omega)
  rwa [List.length_map, hl] at this
theorem Row.store {w : World} {B g cap : Nat} {us : List Value} {σ : List Fm} (h : Row w B g cap us σ) (i : Nat) (hi : i < 6) {u : Value} {c : Fm} (hu : Far g w u c.enc) :
    (∃ c0, w.cell? ⟨g, i, none⟩ = some c0) ∧ w.frozen? ⟨g, i, none⟩ = false ∧ Row (w.setCell ⟨g, i, none⟩ u) B g cap (us.set i u) (σ.set i c) ∧ Touch w (w.setCell ⟨g, i, none⟩ u) (fun k => k = g) := by
  obtain ⟨ho, hl, hr⟩ := h
  have hst := ho.stored i u
  have hus : us.length = 6 := by have := ho.1; omega
  have ht : Touch w (w.setCell ⟨g, i, none⟩ u) (fun k => k = g) := (Touch.grown hst.2).mono (fun k e => by cases e; rfl)
  refine ⟨⟨us[i], by rw [ho.cellAt i (by omega)]; simp [hus, hi]⟩, ho.frozenAt i, ⟨by have := hst.1; exact this, by simp [hl], fun j h1 h2 => ?_⟩, ht⟩
  by_cases e : i = j
  · subst e; simpa using hu.touch ht
  · rw [List.getElem_set_ne e, List.getElem_set_ne e]
    exact (hr j (by simpa using h1) (by simpa using h2)).touch ht
theorem Keeps.touchG {a w w' : World} {g : Nat} (h : Keeps a w) (k : Touch w w' (fun i => i = g)) (hg : a.heap.size ≤ g) : Keeps a w' := h.touch k (fun i hi => by omega)
/-- what the closure captures -/
structure FEnv (w : World) (bv bh bi bc bf g cap : Nat) (vv vc hf : Value) (fid : FuncId) : Prop where
  cv : w.cell? ⟨bv, 0, none⟩ = some vv
  ch : w.cell? ⟨bh, 0, none⟩ = some hf
  ci : w.cell? ⟨bi, 0, none⟩ = some (.slice (some ⟨g, 0, none⟩) 6 cap)
  cc : w.cell? ⟨bc, 0, none⟩ = some vc
  cf : w.cell? ⟨bf, 0, none⟩ = some (.func (.func fid) #[] #[.pointer (some ⟨bv, 0, none⟩), .pointer (some ⟨bh, 0, none⟩), .pointer (some ⟨bi, 0, none⟩), .pointer (some ⟨bc, 0, none⟩), .pointer (some ⟨bf, 0, none⟩)])
  nv : bv ≠ g
  nh : bh ≠ g
  ni : bi ≠ g
  nc : bc ≠ g
  nf : bf ≠ g
theorem FEnv.touch {w w' : World} {bv bh bi bc bf g cap : Nat} {vv vc hf : Value} {fid : FuncId} (h : FEnv w bv bh bi bc bf g cap vv vc hf fid) (k : Touch w w' (fun i => i = g)) : FEnv w' bv bh bi bc bf g cap vv vc hf fid := by
  have mv : ∀ {b : Nat} {v : Value}, b ≠ g → w.cell? ⟨b, 0, none⟩ = some v → w'.cell? ⟨b, 0, none⟩ = some v := fun hb hc => by
    rw [(k.cell (World.block_lt_of_cell? _ _ hc) hb).1]; exact hc
  exact ⟨mv h.nv h.cv, mv h.nh h.ch, mv h.ni h.ci, mv h.nc h.cc, mv h.nf h.cf, h.nv, h.nh, h.ni, h.nc, h.nf⟩
theorem FEnv.drew {w : World} {bv bh bi bc bf g cap : Nat} {vv vc hf : Value} {fid : FuncId} (h : FEnv w bv bh bi bc bf g cap vv vc hf fid) : FEnv w.drew bv bh bi bc bf g cap vv vc hf fid := ⟨h.cv, h.ch, h.ci, h.cc, h.cf, h.nv, h.nh, h.ni, h.nc, h.nf⟩
/-- how a search from a place on answers -/
def FillSays (P : List Fm → Bool) (cs : List Fm) (vs : List Int) (σ : List Fm) (B g cap : Nat) (w : World) (e : Ending) (w' : World) : Prop :=
  ∃ us' σ', e = .returned (.bool (firstC P cs vs σ).isSome) ∧ Row w' B g cap us' σ' ∧ Touch w w' (fun i => i = g) ∧ (∀ r, firstC P cs vs σ = some r → σ' = r) ∧ Agree vs σ' σ ∧ ∀ x ∈ σ', x ∈ σ ∨ x ∈ cs
/-- what holds at each round of the loop over the candidates -/
def FRel (P : List Fm → Bool) (cs : List Fm) (rest : List Int) (x : Nat) (σ : List Fm) (w : World) (B g cap : Nat) (j : Nat) (wr : World) : Prop :=
  Touch w wr (fun i => i = g) ∧ ∃ us' σ', Row wr B g cap us' σ' ∧ Agree ((x : Int) :: rest) σ' σ ∧ (∀ y ∈ σ', y ∈ idF ∨ y ∈ cs) ∧ (∀ y ∈ σ', y ∈ σ ∨ y ∈ cs) ∧ (∀ t (ht : t < cs.length), t < j → firstC P cs rest (σ.set x cs[t]) = none)
--
theorem enters_fill : Enters 184 := fun _ _ => by kernel_rfl
set_option maxRecDepth 20000 in
set_option maxHeartbeats 4000000 in
theorem fill_any (P : List Fm → Bool) (vs : List Int) (cs : List Fm) (fid : FuncId) (cph : Array Value) (w0 : World) (vv vc : Value) (bv bh bi bc bf g cap : Nat)
    (hvv : Ints w0 vv vs) (hvc : NdsL w0 vc (cs.map Fm.enc)) (hvs : ∀ x ∈ vs, ∃ k : Nat, k < 6 ∧ x = k) (hg : w0.heap.size ≤ g) (hen : Enters fid) (hcl : cs.length ≤ 8) (_hvl : vs.length ≤ 6)
    (hh : ∀ σ v w1, Keeps w0 w1 → NdsL w1 v (σ.map Fm.enc) → σ.length = 6 → (∀ x ∈ σ, x ∈ idF ∨ x ∈ cs) → Calls Tryz.prog fid (#[v] ++ cph) w1 fun e w2 => e = .returned (.bool (P σ)) ∧ Keeps w1 w2) :
    ∀ m k, vs.length = k + m → ∀ w us σ, Keeps w0 w → FEnv w bv bh bi bc bf g cap vv vc (.func (.func fid) #[] cph) 184 → Row w w0.heap.size g cap us σ → (∀ x ∈ σ, x ∈ idF ∨ x ∈ cs) →
      Calls Tryz.prog 184 #[.int .i64 k, .pointer (some ⟨bv, 0, none⟩), .pointer (some ⟨bh, 0, none⟩), .pointer (some ⟨bi, 0, none⟩), .pointer (some ⟨bc, 0, none⟩), .pointer (some ⟨bf, 0, none⟩)] w (FillSays P cs (vs.drop k) σ w0.heap.size g cap w) := by
  intro m
  have HVV := hvv
  obtain ⟨pv, cv, rfl, hlv, hmv, _, _⟩ := hvv
  unfold maxLen at hmv
  obtain ⟨pc, nc, cc, rfl⟩ := NdsL.shapeL hvc
  obtain ⟨hnc, hncc, hmc⟩ := (show nc = (cs.map Fm.enc).length ∧ nc ≤ cc ∧ cc ≤ maxLen by obtain ⟨_, _, e, h1, h2, _⟩ := hvc; cases e; exact ⟨rfl, h1, h2⟩)
  rw [List.length_map] at hnc
  subst hnc
  unfold maxLen at hmc
  have HH := hid hh; clear hh
  have hcf' : ∀ args w, (callFunc fid args).run Tryz.prog w = .ok (.enter fid args) w := hen
  have hcf2 : ∀ args w, (callFunc 184 args).run Tryz.prog w = .ok (.enter 184 args) w := enters_fill
  clear hen
  induction m with
  | zero =>
    intro k hk w us σ kw he hrow hmem
    obtain rfl : k = vs.length := by omega
    clear hk
    have hnd := hrow.ndsL
    have hl := hrow.len
    have HR := hid hrow; clear hrow
    have HP := hid (HH.out σ _ w kw hnd hl hmem)
    obtain ⟨h1, h2, h3, h4, h5, _, _, _, _, _⟩ := he
    have HM := hid hmem; clear hmem hnd
    rw [List.drop_length]
    have hf : Hid ((firstC P cs [] σ).isSome = P σ) := by unfold Hid firstC; cases P σ <;> rfl
    have hfr : Hid (∀ r, firstC P cs [] σ = some r → σ = r) := by
      intro r h; unfold firstC at h; split at h
      · cases h; rfl
      · cases h
    go_enter Tryz.func184, Tryz.ntmps184
    go_wp2_with fail
    refine HP.out.mono ?_; rintro e w2 ⟨rfl, k2⟩
    go_wp2_with fail
    go_ret
    exact ⟨us, σ, ret_bool hf.out.symm, HR.out.keeps k2, Touch.of_keeps k2 _, hfr.out, Agree.refl _ _, fun x hx => .inl hx⟩
  | succ m ih =>
    intro k hk w us σ kw he hrow hmem
    have IH := hid ih; clear ih
    have hkl : k < vs.length := by omega
    have hkl' : ((k : Int) == (vs.length : Int)) = false := by simp; omega
    have hklt' : (k : Int) < vs.length := by omega
    obtain ⟨x, hx6, hx⟩ := hvs vs[k] (List.getElem_mem hkl)
    have hdrop : vs.drop k = (x : Int) :: vs.drop (k + 1) := by rw [List.drop_eq_getElem_cons hkl, hx]
    rw [hdrop]
    have HD := hid hdrop; clear hdrop
    have hnn : ∀ v ∈ vs.drop (k + 1), (0 : Int) ≤ v := fun v hv => by obtain ⟨s, _, rfl⟩ := hvs v (List.mem_of_mem_drop hv); omega
    have HNN := hid hnn; clear hnn
    have HR := hid hrow; clear hrow
    have HM := hid hmem; clear hmem
    have HE := hid he
    obtain ⟨e1, e2, e3, e4, e5, _, _, _, _, _⟩ := he
    have hk3 := hid (show vs.length = (k + 1) + m by omega); clear hk
    generalize hrest : vs.drop (k + 1) = rest at *
    have HRest := hid hrest; clear hrest
    go_enter Tryz.func184, Tryz.ntmps184
    go_wp2_with fail
    clear e1 e2 e3 e4 e5
    go_loopw [7, 19] (fun r i' wr => ∃ j : Nat, j ≤ cs.length ∧ i' = .int .i64 j ∧ r = .bool false ∧ FRel P cs rest x σ w w0.heap.size g cap j wr) (fun _ i _ => cs.length - (intOf i).toNat)
    case atStart => exact ⟨0, by omega, rfl, rfl, Touch.refl _ _, us, σ, HR.out, Agree.refl _ _, HM.out, (fun y hy => .inl hy), (fun t ht h => by omega)⟩
    case round =>
      obtain ⟨j, hj, rfl, rfl, tw, us', σ', hrow, hag, hmem, hmem2, hnone⟩ := hrel
      clear HR
      have HN := hid hnone; clear hnone
      have HA := hid hag; clear hag
      have HM2 := hid hmem2; clear hmem2
      have HMr := hid hmem; clear hmem
      by_cases hlt : j < cs.length
      · have hlt' : (j : Int) < cs.length := by omega
        have kwr := kw.touchG tw hg
        obtain ⟨b1, o1, u1, rfl, hc1, hu1⟩ := (NdsL.keeps hvc kwr).get j (by simpa using hlt)
        rw [List.getElem_map] at hu1
        have hfar : Far g wr u1 cs[j].enc := by
          obtain ⟨_, _, u0, e, hc0, hu0⟩ := hvc.get j (by simpa using hlt)
          cases e
          rw [List.getElem_map] at hu0
          have := kwr.cell hc0
          rw [hc1] at this
          cases this
          exact (Far.below hu0 hg).keeps kwr
        obtain ⟨pu, nu, cu, rfl⟩ := hu1.shape
        obtain ⟨b2, o2, e2', hc2⟩ : ∃ b off, pv = some ⟨b, off, none⟩ ∧ wr.cell? ⟨b, off + k, none⟩ = some (.int .i64 vs[k]) := by
          obtain ⟨_, _, e, _, _, hat, _⟩ := HVV.keeps kwr
          cases e
          exact hat.int k hkl
        subst e2'
        rw [hx] at hc2
        have he := HE.out.touch tw
        obtain ⟨⟨c0, hc0⟩, hfz, hrow2, t2⟩ := (hrow.keeps (Keeps.refl wr).drew).store x hx6 (hfar.keeps (Keeps.refl wr).drew)
        have he2 := he.drew.touch t2
        have hmem3 : ∀ y ∈ σ'.set x cs[j], y ∈ idF ∨ y ∈ cs := fun y hy => by
          rcases List.mem_or_eq_of_mem_set hy with h | h
          · exact HMr.out y h
          · exact .inr (h ▸ List.getElem_mem hlt)
        have hI := IH.out (k + 1) hk3.out _ _ _ ((kwr.drew).touchG t2 hg) he2 hrow2 hmem3
        have hcast : ((k + 1 : Nat) : Int) = (k : Int) + 1 := by omega
        rw [hcast, HRest.out] at hI
        have HI := hid hI
        have hagr := HA.out
        have hfe := firstC_agree P cs rest HNN.out _ _ (hagr.set cs[j] (by omega))
        rw [Int.toNat_natCast] at hfe
        have HFE := hid hfe
        have hx0 : (0 : Int) ≤ x := by omega
        have hx6' : (x : Int) < 6 := by omega
        obtain ⟨e1, e2, e3, e4, e5, n1, n2, n3, n4, n5⟩ := he
        obtain ⟨f1, f2, f3, f4, f5, _, _, _, _, _⟩ := he2
        have TW := hid (tw.trans ((Touch.of_keeps (Keeps.refl wr).drew _).trans t2))
        clear hI hfe hagr hrow2 hrow hmem3 hfar hu1 t2 f1 f2 f3 f4
        have hAg : ∀ σ3 : List Fm, Agree rest σ3 (σ'.set x cs[j]) → Agree ((x : Int) :: rest) σ3 σ := fun σ3 h =>
          ((h.mono (fun y hy => List.mem_cons_of_mem _ hy)).trans (by have := Agree.setL (vs := rest) σ' cs[j] (v := (x : Int)) (by omega); rwa [Int.toNat_natCast] at this)).trans HA.out
        have hMe : ∀ σ3 : List Fm, (∀ y ∈ σ3, y ∈ σ'.set x cs[j] ∨ y ∈ cs) → ∀ y ∈ σ3, y ∈ σ ∨ y ∈ cs := fun σ3 h y hy => by
          rcases h y hy with h1 | h1
          · rcases List.mem_or_eq_of_mem_set h1 with h2 | h2
            · exact HM2.out y h2
            · exact .inr (h2 ▸ List.getElem_mem hlt)
          · exact .inr h1
        have HAG := hid hAg
        have HME := hid hMe
        clear hAg hMe
        go_wp2_with fail
        go_region
        go_wp2_with fail
        refine HI.out.mono ?_; rintro e w3 ⟨us3, σ3, rfl, hrow3, t3, hres3, hag3, hmem3⟩
        have HRES := hid hres3; clear hres3
        have HAG3 := hid (HAG.out σ3 hag3); clear hag3
        have HME3 := hid (HME.out σ3 hmem3); clear hmem3
        have TT := hid (TW.out.trans t3); clear t3
        clear n1 n2 n3 n4 n5 e1 e2 e3 e4 e5 f5 hc0 hfz hc1 hc2
        cases hfr : firstC P cs rest (σ.set x cs[j]) with
        | some r =>
          have hat := hid (firstC_at P cs (x : Int) rest σ r j hlt (fun t ht htj => by have := HN.out t ht htj; rwa [Int.toNat_natCast]) (by rw [Int.toNat_natCast]; exact hfr))
          have hr := hid (HRES.out r (HFE.out.trans hfr))
          have hb : (firstC P cs rest (σ'.set x cs[j])).isSome = true := by rw [HFE.out, hfr]; rfl
          rw [hb]
          clear hfr hb
          go_wp2_with fail
          go_ret
          exact ⟨us3, σ3, ret_bool (by rw [hat.out]; rfl), hrow3, TT.out, (fun r' h => by rw [hat.out] at h; cases h; exact hr.out), HAG3.out, HME3.out⟩
        | none =>
          have hb : (firstC P cs rest (σ'.set x cs[j])).isSome = false := by rw [HFE.out, hfr]; rfl
          rw [hb]
          have hfr' := hid hfr; clear hfr hb
          go_wp2_with fail
          go_roundw
          case rel =>
            refine ⟨j + 1, by omega, by go_num, rfl, TT.out, us3, σ3, hrow3, HAG3.out, ?_, HME3.out, ?_⟩
            · intro y hy
              rcases HME3.out y hy with h | h
              · exact HM.out y h
              · exact .inr h
            · intro t ht htj
              by_cases e : t = j
              · subst e; exact hfr'.out
              · exact HN.out t ht (by omega)
          case measure => simp [intOf]; omega
      · obtain rfl : j = cs.length := by omega
        have hlt' : ¬ (cs.length : Int) < cs.length := by omega
        have hfn := hid (firstC_end P cs (x : Int) rest σ (fun t ht => by have := HN.out t ht ht; rwa [Int.toNat_natCast]))
        go_wp2_with fail
        go_ret
        exact ⟨us', σ', ret_bool (by rw [hfn.out]; rfl), hrow, tw, (fun r h => by rw [hfn.out] at h; cases h), HA.out, HM2.out⟩
end Go.Proofs.YtodeecmhcfbheaaGreat
/- The program's firstCandidate: the first candidate substitution for which a condition holds. (printed by mkzd.py) -/
namespace Go.Proofs.YtodeecmhcfbheaaGreat
open Go.RowKit
--
set_option maxRecDepth 20000 in
set_option maxHeartbeats 4000000 in
theorem firstCandidate_any (P : List Fm → Bool) (vs : List Int) (cs : List Fm) (fid : FuncId) (cph : Array Value) (w : World) (vv vc : Value)
    (hvv : Ints w vv vs) (hvc : NdsL w vc (cs.map Fm.enc)) (hvs : ∀ x ∈ vs, ∃ k : Nat, k < 6 ∧ x = k) (hen : Enters fid) (hcl : cs.length ≤ 8) (hvl : vs.length ≤ 6) (hc40 : ∀ c ∈ cs, c.enc.length ≤ 40)
    (hh : ∀ σ v w1, Keeps w w1 → NdsL w1 v (σ.map Fm.enc) → σ.length = 6 → (∀ x ∈ σ, x ∈ idF ∨ x ∈ cs) → Calls Tryz.prog fid (#[v] ++ cph) w1 fun e w2 => e = .returned (.bool (P σ)) ∧ Keeps w1 w2) :
    Calls Tryz.prog 102 #[vv, vc, .func (.func fid) #[] cph] w fun e w' => ∃ u, e = .returned (.tuple #[u, .int .i64 (if (firstC P cs vs idF).isSome then 0 else 4)]) ∧ OwnL w' w.heap.size u (((firstC P cs vs idF).getD []).map Fm.enc) ∧ Keeps w w' := by
  have hvv0 := hvv
  obtain ⟨pv, cv, rfl, hlv, hmv, _, _⟩ := hvv
  obtain ⟨pc, nc, cc, rfl⟩ := NdsL.shapeL hvc
  have HF := hid (fun g (hg : w.heap.size ≤ g) bv bh bi bc bf cap => fill_any P vs cs fid cph w _ _ bv bh bi bc bf g cap hvv0 hvc hvs hg hen hcl hvl hh vs.length 0 (by omega))
  have HC40 := hid hc40; clear hc40
  clear hh hvs hen
  cases hfc : firstC P cs vs idF with
  | none =>
    simp only [Option.isSome_none, Bool.false_eq_true, if_false, Option.getD_none, List.map_nil]
    have k3 : Keeps w (((w.alloc (.cells #[.slice pv vs.length cv] 114)).alloc (.cells #[.slice pc nc cc] 35)).alloc (.cells #[.func (.func fid) #[] cph] 107)) := ((Keeps.refl w).alloc _).alloc _ |>.alloc _
    have cV : (((w.alloc (.cells #[.slice pv vs.length cv] 114)).alloc (.cells #[.slice pc nc cc] 35)).alloc (.cells #[.func (.func fid) #[] cph] 107)).cell? ⟨w.heap.size, 0, none⟩ = some (.slice pv vs.length cv) := by rw [World.cell?_alloc_lt (h := by simp; omega), World.cell?_alloc_lt (h := by simp)]; simp
    have cC : (((w.alloc (.cells #[.slice pv vs.length cv] 114)).alloc (.cells #[.slice pc nc cc] 35)).alloc (.cells #[.func (.func fid) #[] cph] 107)).cell? ⟨w.heap.size + 1, 0, none⟩ = some (.slice pc nc cc) := by rw [World.cell?_alloc_lt (h := by simp)]; exact cell_newN (by simp)
    have cH : (((w.alloc (.cells #[.slice pv vs.length cv] 114)).alloc (.cells #[.slice pc nc cc] 35)).alloc (.cells #[.func (.func fid) #[] cph] 107)).cell? ⟨w.heap.size + 1 + 1, 0, none⟩ = some (.func (.func fid) #[] cph) := cell_newN (by simp)
    have hs3 : (((w.alloc (.cells #[.slice pv vs.length cv] 114)).alloc (.cells #[.slice pc nc cc] 35)).alloc (.cells #[.func (.func fid) #[] cph] 107)).heap.size = w.heap.size + 3 := by simp
    have hst : ∀ (a : Addr) (f : Fn) (b c : Array Value) (m : Mode) (w' : World), (store a (.func f b c) m).run Tryz.prog w' = stored Tryz.prog w' a (.func f b c) m := fun a f b c m w' => run_store _ w' a _ m rfl
    have hcf2 : ∀ args w, (callFunc 184 args).run Tryz.prog w = .ok (.enter 184 args) w := enters_fill
    go_enter Tryz.func102, Tryz.ntmps102
    go_wp2_with fail
    refine (identity_any _).mono ?_; rintro e w1 ⟨vI, rfl, hI, kI⟩
    obtain ⟨g, cap, rfl, hg0, hg1⟩ := hI.shape (by rw [idL_len]; omega)
    rw [idL_len] at hI ⊢
    have hgw : w.heap.size ≤ g := by omega
    have hrow1 : ∃ us, Row w1 w.heap.size g cap us idF := by
      obtain ⟨us, ho, hr, _, _⟩ := hI
      refine ⟨us, own_mono ho (by omega), by rw [hr.1]; rfl, fun i h1 h2 => ?_⟩
      have h3 := hr.2 i h1 (by rw [← hr.1]; exact h1)
      have := Far.own h3 ho (g := g) rfl (by simp [idF_enc, idF] at h2 ⊢; rcases h2 with _; (have : i = 0 ∨ i = 1 ∨ i = 2 ∨ i = 3 ∨ i = 4 ∨ i = 5 := by omega); rcases this with rfl | rfl | rfl | rfl | rfl | rfl <;> simp [Fm.enc])
      simpa [idF_enc] using this
    obtain ⟨us, hrow1⟩ := hrow1
    have k2 : Keeps w1 ((w1.alloc (.cells #[.slice (some ⟨g, 0, none⟩) 6 cap] 35)).alloc (.cells #[(.func (.func 184) #[] #[.pointer (some ⟨w.heap.size, 0, none⟩), .pointer (some ⟨w.heap.size + 1 + 1, 0, none⟩), .pointer (some ⟨w1.heap.size, 0, none⟩), .pointer (some ⟨w.heap.size + 1, 0, none⟩), .pointer (some ⟨w1.heap.size + 1, 0, none⟩)])] 161)) := ((Keeps.refl w1).alloc _).alloc _
    have hFE : FEnv ((w1.alloc (.cells #[.slice (some ⟨g, 0, none⟩) 6 cap] 35)).alloc (.cells #[(.func (.func 184) #[] #[.pointer (some ⟨w.heap.size, 0, none⟩), .pointer (some ⟨w.heap.size + 1 + 1, 0, none⟩), .pointer (some ⟨w1.heap.size, 0, none⟩), .pointer (some ⟨w.heap.size + 1, 0, none⟩), .pointer (some ⟨w1.heap.size + 1, 0, none⟩)])] 161)) w.heap.size (w.heap.size + 1 + 1) w1.heap.size (w.heap.size + 1) (w1.heap.size + 1) g cap (.slice pv vs.length cv) (.slice pc nc cc) (.func (.func fid) #[] cph) 184 :=
      ⟨k2.cell (kI.cell cV), k2.cell (kI.cell cH), by rw [World.cell?_alloc_lt (h := by simp)]; exact cell_newN rfl, k2.cell (kI.cell cC), cell_newN (by simp), by omega, by omega, by omega, by omega, by omega⟩
    have hF : Calls Tryz.prog 184 #[.int .i64 0, .pointer (some ⟨w.heap.size, 0, none⟩), .pointer (some ⟨w.heap.size + 1 + 1, 0, none⟩), .pointer (some ⟨w1.heap.size, 0, none⟩), .pointer (some ⟨w.heap.size + 1, 0, none⟩), .pointer (some ⟨w1.heap.size + 1, 0, none⟩)] ((w1.alloc (.cells #[.slice (some ⟨g, 0, none⟩) 6 cap] 35)).alloc (.cells #[(.func (.func 184) #[] #[.pointer (some ⟨w.heap.size, 0, none⟩), .pointer (some ⟨w.heap.size + 1 + 1, 0, none⟩), .pointer (some ⟨w1.heap.size, 0, none⟩), .pointer (some ⟨w.heap.size + 1, 0, none⟩), .pointer (some ⟨w1.heap.size + 1, 0, none⟩)])] 161)) (FillSays P cs vs idF w.heap.size g cap ((w1.alloc (.cells #[.slice (some ⟨g, 0, none⟩) 6 cap] 35)).alloc (.cells #[(.func (.func 184) #[] #[.pointer (some ⟨w.heap.size, 0, none⟩), .pointer (some ⟨w.heap.size + 1 + 1, 0, none⟩), .pointer (some ⟨w1.heap.size, 0, none⟩), .pointer (some ⟨w.heap.size + 1, 0, none⟩), .pointer (some ⟨w1.heap.size + 1, 0, none⟩)])] 161))) :=
      HF.out g hgw _ _ _ _ _ cap _ us idF ((k3.trans kI).trans k2) hFE (hrow1.keeps k2) (fun x hx => .inl hx)
    have HFF := hid hF; clear hF HF
    have HFE := hid hFE; clear hFE
    clear cV cC cH hI hrow1
    have k02 := (k3.trans kI).trans k2
    go_wp2_with fail
    refine HFF.out.mono ?_; rintro e w3 ⟨us3, σ3, rfl, hrow3, t3, hres, _, _⟩
    have k03 := k02.touchG t3 hgw
    have HE3 := hid (HFE.out.touch t3)
    rw [hfc]
    have hb : ((none : Option (List Fm)).isSome) = false := rfl
    rw [hb]
    clear hb hfc hres
    go_wp2_with fail
    go_ret2
    exact ⟨_, rfl, OwnL.nil _ _, k03⟩
  | some r =>
    simp only [Option.isSome_some, if_true, Option.getD_some]
    have k3 : Keeps w (((w.alloc (.cells #[.slice pv vs.length cv] 114)).alloc (.cells #[.slice pc nc cc] 35)).alloc (.cells #[.func (.func fid) #[] cph] 107)) := ((Keeps.refl w).alloc _).alloc _ |>.alloc _
    have cV : (((w.alloc (.cells #[.slice pv vs.length cv] 114)).alloc (.cells #[.slice pc nc cc] 35)).alloc (.cells #[.func (.func fid) #[] cph] 107)).cell? ⟨w.heap.size, 0, none⟩ = some (.slice pv vs.length cv) := by rw [World.cell?_alloc_lt (h := by simp; omega), World.cell?_alloc_lt (h := by simp)]; simp
    have cC : (((w.alloc (.cells #[.slice pv vs.length cv] 114)).alloc (.cells #[.slice pc nc cc] 35)).alloc (.cells #[.func (.func fid) #[] cph] 107)).cell? ⟨w.heap.size + 1, 0, none⟩ = some (.slice pc nc cc) := by rw [World.cell?_alloc_lt (h := by simp)]; exact cell_newN (by simp)
    have cH : (((w.alloc (.cells #[.slice pv vs.length cv] 114)).alloc (.cells #[.slice pc nc cc] 35)).alloc (.cells #[.func (.func fid) #[] cph] 107)).cell? ⟨w.heap.size + 1 + 1, 0, none⟩ = some (.func (.func fid) #[] cph) := cell_newN (by simp)
    have hs3 : (((w.alloc (.cells #[.slice pv vs.length cv] 114)).alloc (.cells #[.slice pc nc cc] 35)).alloc (.cells #[.func (.func fid) #[] cph] 107)).heap.size = w.heap.size + 3 := by simp
    have hst : ∀ (a : Addr) (f : Fn) (b c : Array Value) (m : Mode) (w' : World), (store a (.func f b c) m).run Tryz.prog w' = stored Tryz.prog w' a (.func f b c) m := fun a f b c m w' => run_store _ w' a _ m rfl
    have hcf2 : ∀ args w, (callFunc 184 args).run Tryz.prog w = .ok (.enter 184 args) w := enters_fill
    go_enter Tryz.func102, Tryz.ntmps102
    go_wp2_with fail
    refine (identity_any _).mono ?_; rintro e w1 ⟨vI, rfl, hI, kI⟩
    obtain ⟨g, cap, rfl, hg0, hg1⟩ := hI.shape (by rw [idL_len]; omega)
    rw [idL_len] at hI ⊢
    have hgw : w.heap.size ≤ g := by omega
    have hrow1 : ∃ us, Row w1 w.heap.size g cap us idF := by
      obtain ⟨us, ho, hr, _, _⟩ := hI
      refine ⟨us, own_mono ho (by omega), by rw [hr.1]; rfl, fun i h1 h2 => ?_⟩
      have h3 := hr.2 i h1 (by rw [← hr.1]; exact h1)
      have := Far.own h3 ho (g := g) rfl (by simp [idF_enc, idF] at h2 ⊢; rcases h2 with _; (have : i = 0 ∨ i = 1 ∨ i = 2 ∨ i = 3 ∨ i = 4 ∨ i = 5 := by omega); rcases this with rfl | rfl | rfl | rfl | rfl | rfl <;> simp [Fm.enc])
      simpa [idF_enc] using this
    obtain ⟨us, hrow1⟩ := hrow1
    have k2 : Keeps w1 ((w1.alloc (.cells #[.slice (some ⟨g, 0, none⟩) 6 cap] 35)).alloc (.cells #[(.func (.func 184) #[] #[.pointer (some ⟨w.heap.size, 0, none⟩), .pointer (some ⟨w.heap.size + 1 + 1, 0, none⟩), .pointer (some ⟨w1.heap.size, 0, none⟩), .pointer (some ⟨w.heap.size + 1, 0, none⟩), .pointer (some ⟨w1.heap.size + 1, 0, none⟩)])] 161)) := ((Keeps.refl w1).alloc _).alloc _
    have hFE : FEnv ((w1.alloc (.cells #[.slice (some ⟨g, 0, none⟩) 6 cap] 35)).alloc (.cells #[(.func (.func 184) #[] #[.pointer (some ⟨w.heap.size, 0, none⟩), .pointer (some ⟨w.heap.size + 1 + 1, 0, none⟩), .pointer (some ⟨w1.heap.size, 0, none⟩), .pointer (some ⟨w.heap.size + 1, 0, none⟩), .pointer (some ⟨w1.heap.size + 1, 0, none⟩)])] 161)) w.heap.size (w.heap.size + 1 + 1) w1.heap.size (w.heap.size + 1) (w1.heap.size + 1) g cap (.slice pv vs.length cv) (.slice pc nc cc) (.func (.func fid) #[] cph) 184 :=
      ⟨k2.cell (kI.cell cV), k2.cell (kI.cell cH), by rw [World.cell?_alloc_lt (h := by simp)]; exact cell_newN rfl, k2.cell (kI.cell cC), cell_newN (by simp), by omega, by omega, by omega, by omega, by omega⟩
    have hF : Calls Tryz.prog 184 #[.int .i64 0, .pointer (some ⟨w.heap.size, 0, none⟩), .pointer (some ⟨w.heap.size + 1 + 1, 0, none⟩), .pointer (some ⟨w1.heap.size, 0, none⟩), .pointer (some ⟨w.heap.size + 1, 0, none⟩), .pointer (some ⟨w1.heap.size + 1, 0, none⟩)] ((w1.alloc (.cells #[.slice (some ⟨g, 0, none⟩) 6 cap] 35)).alloc (.cells #[(.func (.func 184) #[] #[.pointer (some ⟨w.heap.size, 0, none⟩), .pointer (some ⟨w.heap.size + 1 + 1, 0, none⟩), .pointer (some ⟨w1.heap.size, 0, none⟩), .pointer (some ⟨w.heap.size + 1, 0, none⟩), .pointer (some ⟨w1.heap.size + 1, 0, none⟩)])] 161)) (FillSays P cs vs idF w.heap.size g cap ((w1.alloc (.cells #[.slice (some ⟨g, 0, none⟩) 6 cap] 35)).alloc (.cells #[(.func (.func 184) #[] #[.pointer (some ⟨w.heap.size, 0, none⟩), .pointer (some ⟨w.heap.size + 1 + 1, 0, none⟩), .pointer (some ⟨w1.heap.size, 0, none⟩), .pointer (some ⟨w.heap.size + 1, 0, none⟩), .pointer (some ⟨w1.heap.size + 1, 0, none⟩)])] 161))) :=
      HF.out g hgw _ _ _ _ _ cap _ us idF ((k3.trans kI).trans k2) hFE (hrow1.keeps k2) (fun x hx => .inl hx)
    have HFF := hid hF; clear hF HF
    have HFE := hid hFE; clear hFE
    clear cV cC cH hI hrow1
    have k02 := (k3.trans kI).trans k2
    go_wp2_with fail
    refine HFF.out.mono ?_; rintro e w3 ⟨us3, σ3, rfl, hrow3, t3, hres, _, _⟩
    have k03 := k02.touchG t3 hgw
    have HE3 := hid (HFE.out.touch t3)
    obtain rfl := hres r hfc
    rw [hfc]
    have hb : ((some σ3 : Option (List Fm)).isSome) = true := rfl
    rw [hb]
    have hmem := (show ∀ x ∈ σ3, x ∈ idF ∨ x ∈ cs from fun x hx => firstC_mem P cs vs idF σ3 hfc x hx)
    have hl6 := hrow3.len
    have h40 : ∀ x ∈ σ3, x.enc.length ≤ 40 := fun x hx => by
      rcases hmem x hx with h | h
      · simp [idF] at h; rcases h with rfl | rfl | rfl | rfl | rfl | rfl <;> simp [Fm.enc]
      · exact HC40.out x h
    have H40 := hid h40
    clear hb hfc hres hmem h40
    have hci := HE3.out.ci
    have HR3 := hid hrow3; clear hrow3
    clear hst hcf2
    go_wp2_with fail
    clear hci
    go_loopw [10, 20] (fun o i' wr => ∃ k : Nat, k ≤ 6 ∧ i' = .int .i64 k ∧ OwnL wr w3.heap.size o ((σ3.take k).map Fm.enc) ∧ Keeps w3 wr) (fun _ i _ => 6 - (intOf i).toNat)
    case atStart => exact ⟨0, by omega, rfl, OwnL.nil _ _, Keeps.refl w3⟩
    case round =>
      obtain ⟨k, hk, rfl, hown, kw⟩ := hrel
      have hsz := kw.size
      by_cases hlt : k < 6
      · have hlt' : (k : Int) < 6 := by omega
        have hkl : k < σ3.length := by omega
        obtain ⟨b1, o1, u1, e1, hc1, hu1⟩ := (HR3.out.keeps kw).ndsL.get k (by simpa using hkl)
        cases e1
        rw [Nat.zero_add] at hc1
        rw [List.getElem_map] at hu1
        have h40 := H40.out _ (List.getElem_mem hkl)
        obtain ⟨pu, nu, cu, rfl⟩ := hu1.shape
        have HCL := hid (clone_any _ _ wr hu1 (Fm.enc_pos _) (by omega))
        have htk := hid (show σ3.take (k + 1) = σ3.take k ++ [σ3[k]] from List.take_succ_eq_append_getElem hkl)
        have hll : ((σ3.take k).map Fm.enc).length = k := by simp; omega
        clear hu1 h40
        go_wp2_with fail
        refine HCL.out.mono ?_; rintro e w4 ⟨v4, rfl, hv4, k4⟩
        obtain ⟨p2, n2, c2, rfl⟩ : ∃ p n c, v4 = .slice p n c := by obtain ⟨p, c, e, _⟩ := At.of_own hv4; exact ⟨p, _, c, e⟩
        have k5 := k4.alloc (.cells #[.slice p2 n2 c2] 24)
        have hv5 := hv4.keeps ((Keeps.refl w4).alloc (.cells #[.slice p2 n2 c2] 24))
        have hat := At.lit1 w4 (.slice p2 n2 c2) 24
        go_wp2_with (at_builtin; refine appL rfl _ _ rfl w3.heap.size _ ((σ3.take k).map Fm.enc) rfl wr hown k5 _ _ hv5 hsz _ _ rfl hat (by omega) ?_; intro v6 w6 hv6 hg6 hr6; have k6 : Keeps w3 w6 := (kw.trans k5).grown hg6 hr6)
        go_roundw
        case rel => exact ⟨k + 1, by omega, by go_num, by rw [htk.out, List.map_append]; exact hv6, k6⟩
        case measure => simp [intOf]; omega
      · obtain rfl : k = 6 := by omega
        go_wp2
        go_ret2
        rw [List.take_of_length_le (by omega)] at hown
        exact ⟨_, rfl, hown.mono k03.size, k03.trans kw⟩
end Go.Proofs.YtodeecmhcfbheaaGreat
/- The reference's counting and choosing of candidate substitutions; errors of two lists. -/
namespace Go.Proofs.YtodeecmhcfbheaaGreat
open Go.RowKit
--
set_option maxRecDepth 20000 in
set_option maxHeartbeats 1000000 in
theorem l31Count_any (vs : List Int) (cs : List (List Nd)) (v u : Value) (w : World) (hv : Ints w v vs) (hu : NdsL w u cs) (h6 : vs.length ≤ 6) (h8 : cs.length ≤ 8) :
    Calls Tryz.prog 187 #[v, u] w fun e w' => e = .returned (.int .i64 (cap601 cs.length vs.length : Nat)) ∧ w = w' := by
  obtain ⟨p, cap, rfl, hle, hmx, hx1, hx2⟩ := hv
  obtain ⟨q, dap, rfl, hle2, hmx2, hx3, hx4⟩ := hu
  unfold maxLen at hmx hmx2
  clear hx1 hx2 hx3 hx4
  generalize hm : cs.length = m at *
  generalize hn : vs.length = n at *
  go_enter Tryz.func187, Tryz.ntmps187
  go_wp2
  go_loop [5, 6] (fun c i' => ∃ k : Nat, k ≤ n ∧ i' = .int .i64 k ∧ c = .int .i64 (cap601 m k : Nat)) (fun _ i => n - (intOf i).toNat)
  case atStart => exact ⟨0, by omega, rfl, rfl⟩
  case round =>
    obtain ⟨k, hk, rfl, rfl⟩ := hrel
    by_cases hlt : k < n
    · have hlt' : (k : Int) < n := by omega
      have hc := cap601_eq m k
      have hs : cap601 m (k + 1) = min (cap601 m k * m) 601 := rfl
      have hc1 : cap601 m k ≤ 601 := by omega
      have hmul : cap601 m k * m ≤ 601 * 8 := Nat.mul_le_mul hc1 h8
      have HS := hid hs; clear hs hc
      generalize cap601 m k = c at *
      have hcm : (c : Int) * (m : Int) = ((c * m : Nat) : Int) := by push_cast; rfl
      have hmin : min ((c : Int) * (m : Int)) 601 = ((min (c * m) 601 : Nat) : Int) := by rw [hcm]; omega
      have hb0 : 0 ≤ (c : Int) * (m : Int) := by rw [hcm]; omega
      have hb1 : (c : Int) * (m : Int) ≤ 4808 := by rw [hcm]; omega
      have HMIN := hid hmin; clear hmin hcm
      go_wp2
      go_round
      case rel => exact ⟨k + 1, by omega, by go_num, by rw [HS.out, ← HMIN.out]⟩
      case measure => simp [intOf]; omega
    · obtain rfl : k = n := by omega
      have hlt' : ¬ (k : Int) < k := by omega
      go_wp2
      go_ret
      exact ⟨rfl, rfl⟩
/-- the first error of two in the order of invalid ones and those that are not plain -/
def bothE (x y : Int) : Int := if x = 1 ∨ y = 1 then 1 else max x y
theorem bothE_app (l m : List (List Nd)) : bothE (plainErrs l) (plainErrs m) = plainErrs (l ++ m) := by
  unfold bothE plainErrs allFm allPlainL
  rw [List.any_append, List.any_append]
  cases l.any (fun x => !isFm x) <;> cases m.any (fun x => !isFm x) <;> cases l.any (fun x => !plainL x) <;> cases m.any (fun x => !plainL x) <;> simp <;> decide
theorem plainErrs_comm (l m : List (List Nd)) : plainErrs (l ++ m) = plainErrs (m ++ l) := by
  unfold plainErrs allFm allPlainL
  rw [List.any_append, List.any_append, List.any_append, List.any_append, Bool.or_comm, Bool.or_comm (l.any fun x => !plainL x)]
--
set_option maxRecDepth 20000 in
theorem l31Both_two (x y : Int) (w : World) (hx : x = 0 ∨ x = 1 ∨ x = 5) (hy : y = 0 ∨ y = 1 ∨ y = 5) : Calls Tryz.prog 83 #[.int .i64 x, .int .i64 y] w fun e w' => e = .returned (.int .i64 (bothE x y)) ∧ w = w' := by
  rcases hx with rfl | rfl | rfl <;> rcases hy with rfl | rfl | rfl
  all_goals
    go_enter Tryz.func83, Tryz.ntmps83
    go_wp2
    go_ret
    exact ⟨rfl, rfl⟩
--
set_option maxRecDepth 20000 in
set_option maxHeartbeats 4000000 in
theorem l31Choice_any (vs : List Int) (cs : List Fm) (n0 : Nat) (v u : Value) (w : World) (hv : Ints w v vs) (hu : NdsL w u (cs.map Fm.enc)) (hvs : ∀ x ∈ vs, ∃ k : Nat, k < 6 ∧ x = k) (hvl : vs.length ≤ 6) (hc8 : cs.length ≤ 8)
    (hcp : 0 < vs.length → 0 < cs.length) (hn : n0 ≤ 1000) (hcl : ∀ c ∈ cs, c.enc.length ≤ 40) : Calls Tryz.prog 188 #[v, u, .int .i64 n0] w (RetL w ((pickC cs vs.reverse n0 idF).map Fm.enc)) := by
  have hv0 := hv
  obtain ⟨pv, cv, rfl, hlv, hmv, _, _⟩ := hv
  obtain ⟨pc, nc, cc, rfl⟩ := NdsL.shapeL hu
  obtain ⟨hnc, hncc, hmc⟩ : nc = (cs.map Fm.enc).length ∧ nc ≤ cc ∧ cc ≤ maxLen := by obtain ⟨_, _, e, h1, h2, _⟩ := hu; cases e; exact ⟨rfl, h1, h2⟩
  rw [List.length_map] at hnc
  subst hnc
  unfold maxLen at hmv hmc
  have HV := hid hvs; clear hvs
  have HC := hid hcl; clear hcl
  have HP := hid hcp; clear hcp
  go_enter Tryz.func188, Tryz.ntmps188
  go_wp2_with fail
  refine (l03Self_any w).mono ?_; rintro e w1 ⟨vI, rfl, hI, kI⟩
  obtain ⟨g, cap, rfl, hg0, hg1⟩ := hI.shape (by rw [idL_len]; omega)
  rw [idL_len] at hI ⊢
  rw [idF_enc] at hI
  go_wp2_with fail
  go_loopw [2, 9] (fun n' i' wr => ∃ (t num : Nat) (σ : List Fm), t ≤ vs.length ∧ i' = .int .i64 ((vs.length : Int) - 1 - t) ∧ n' = .int .i64 num ∧ num ≤ 1000 ∧ σ.length = 6 ∧ OwnL wr w.heap.size (.slice (some ⟨g, 0, none⟩) 6 cap) (σ.map Fm.enc) ∧ Hid (pickC cs (vs.reverse.drop t) num σ = pickC cs vs.reverse n0 idF) ∧ Keeps w wr) (fun _ i _ => (intOf i + 1).toNat)
  case atStart => exact ⟨0, n0, idF, by omega, by first | rfl | go_num, rfl, hn, rfl, hI, rfl, kI⟩
  case round =>
    obtain ⟨t, num, σ, ht, rfl, rfl, hnum, hσ, hI, hpk, kw⟩ := hrel
    by_cases hlt : t < vs.length
    · obtain ⟨q, hq⟩ : ∃ q : Nat, q = vs.length - 1 - t := ⟨_, rfl⟩
      have hqi : (vs.length : Int) - 1 - t = (q : Int) := by omega
      have hql : q < vs.length := by omega
      have hqt : q + t + 1 = vs.length := by omega
      have hql' : (q : Int) < vs.length := by omega
      have hq0 : (0 : Int) ≤ q := by omega
      have hcpos := HP.out (by omega)
      have hr : num % cs.length < cs.length := Nat.mod_lt _ hcpos
      obtain ⟨x, hx6, hx⟩ := HV.out vs[q] (List.getElem_mem hql)
      have hdrop : vs.reverse.drop t = (x : Int) :: vs.reverse.drop (t + 1) := by
        rw [List.drop_eq_getElem_cons (by simpa using hlt), List.getElem_reverse, ← hx]
        simp only [hq]
      have hpk2 : pickC cs (vs.reverse.drop (t + 1)) (num / cs.length) (σ.set x cs[num % cs.length]) = pickC cs vs.reverse n0 idF := by
        rw [← hpk, hdrop]
        simp only [pickC, List.getElem?_eq_getElem hr, Int.toNat_natCast]
      have HPK := hid hpk2; clear hpk hpk2 hdrop
      obtain ⟨b1, o1, e1, hc1⟩ : ∃ b off, pv = some ⟨b, off, none⟩ ∧ wr.cell? ⟨b, off + q, none⟩ = some (.int .i64 vs[q]) := by
        obtain ⟨_, _, e, _, _, hat, _⟩ := hv0.keeps kw
        cases e
        exact hat.int q hql
      subst e1
      rw [hx] at hc1
      obtain ⟨b2, o2, u2, rfl, hc2, hu2⟩ := (hu.keeps kw).get (num % cs.length) (by simpa using hr)
      rw [List.getElem_map] at hu2
      obtain ⟨pu, nu, cu, rfl⟩ := hu2.shape
      have kd := (Keeps.refl wr).drew
      have hcd1 := kd.cell hc1
      have hcd2 := kd.cell hc2
      have hlen40 := HC.out cs[num % cs.length] (List.getElem_mem hr)
      have HO := hid (l02Own_any cs[num % cs.length].enc _ _ (hu2.keeps kd) (by omega))
      have hw0 := kw.size
      have hlm : (σ.map Fm.enc).length = 6 := by rw [List.length_map, hσ]
      have hx0 : (0 : Int) ≤ x := by omega
      have hx6' : (x : Int) < 6 := by omega
      have hmod : Int.tmod (num : Int) (cs.length : Int) = ((num % cs.length : Nat) : Int) := by rw [Int.tmod_eq_emod_of_nonneg (by omega)]; rfl
      have hdiv : Int.tdiv (num : Int) (cs.length : Int) = ((num / cs.length : Nat) : Int) := by rw [Int.tdiv_eq_ediv_of_nonneg (by omega)]; rfl
      have hr' : ((num % cs.length : Nat) : Int) < cs.length := by omega
      have hr0 : (0 : Int) ≤ ((num % cs.length : Nat) : Int) := by omega
      have hr2 : (num : Int) % (cs.length : Int) < cs.length := Int.emod_lt_of_pos _ (by omega)
      have hr3 : 0 ≤ (num : Int) % (cs.length : Int) := Int.emod_nonneg _ (by omega)
      have htn : ((num : Int) % (cs.length : Int)).toNat = num % cs.length := rfl
      have hcz : ¬ cs = [] := by intro e; rw [e] at hcpos; simp at hcpos
      have hw64 : wrap64 ((num : Int) / (cs.length : Int)) = ((num / cs.length : Nat) : Int) := by
        have h1 : (num : Int) / (cs.length : Int) = ((num / cs.length : Nat) : Int) := rfl
        have h2 : num / cs.length ≤ 1000 := Nat.le_trans (Nat.div_le_self _ _) hnum
        rw [h1]; generalize num / cs.length = dd at h2 ⊢; unfold wrap64; omega
      have HW64 := hid hw64; clear hw64
      have hdl : num / cs.length ≤ 1000 := Nat.le_trans (Nat.div_le_self _ _) hnum
      have hblk : b1 < w.heap.size := by
        obtain ⟨_, _, e, _, _, hat, _⟩ := hv0
        cases e
        obtain ⟨_, _, e, hh⟩ := hat.int q hql
        cases e
        exact World.block_lt_of_cell? _ _ hh
      have hblk2 : b2 < w.heap.size := by
        obtain ⟨_, _, _, e, hh, _⟩ := hu.get (num % cs.length) (by simpa using hr)
        cases e
        exact World.block_lt_of_cell? _ _ hh
      rw [hqi]
      clear hqi hx hq hu2
      have hne : ∀ (b : Nat), b < w.heap.size → some b ≠ some g := fun b hb e => by cases e; omega
      have hb1 := hne b1 hblk
      have hb2 := hne b2 hblk2
      clear hne
      go_wp2_with fail
      go_region_held3 (fun w' => w'.cell? ⟨b1, o1 + q, none⟩ = some (.int .i64 x) ∧ w'.cell? ⟨b2, o2 + num % cs.length, none⟩ = some (.slice pu nu cu)) (first | exact ⟨hcd1, hcd2⟩ | exact ⟨he1, he2⟩ | exact ⟨hf1, hf2⟩) (first
        | (go_at_call 226; refine HO.out.mono ?_; rintro e w5 ⟨v5, rfl, hv5, k5⟩; have he1 := k5.cell hcd1; have he2 := k5.cell hcd2; have k45 := kd.trans k5; obtain ⟨g', cap', c5, e5, hg2, hg3, hcg5, hf5, hI5, gr5⟩ := hI.store k45 (hv5.mono (by simp)) hw0 x (by rw [hlm]; omega); rw [hlm] at e5; cases e5; obtain ⟨p5, n5, q5, rfl⟩ : ∃ p n c, v5 = .slice p n c := (by obtain ⟨p, c, e, _⟩ := At.of_own hv5; exact ⟨p, _, c, e⟩); have hf1 := World.grownBy.cell gr5 he1 hb1; have hf2 := World.grownBy.cell gr5 he2 hb2))
      go_wp2_with fail
      go_roundw
      case rel =>
        refine ⟨t + 1, num / cs.length, σ.set x cs[num % cs.length], by omega, by go_num, by first | rfl | (rw [HW64.out]), hdl, by simp [hσ], ?_, HPK.out, (kw.trans k45).grown gr5 (fun j hj => by cases hj; exact hg2)⟩
        rw [List.map_set]; exact hI5
      case measure => (simp [intOf]; try omega)
    · obtain rfl : t = vs.length := by omega
      have hneg : (vs.length : Int) - 1 - vs.length = -1 := by omega
      rw [hneg]
      have hp := hpk
      rw [List.drop_eq_nil_of_le (by simp)] at hp
      have hp2 := hid (show σ = pickC cs vs.reverse n0 idF from hp)
      go_wp2_with fail
      go_ret
      exact ⟨_, rfl, by rw [← hp2.out]; exact hI, kw⟩
end Go.Proofs.YtodeecmhcfbheaaGreat
/- FindUnifier and FindBreaking: what is asked of a substitution; the program's closures; candidateCode. -/
namespace Go.Proofs.YtodeecmhcfbheaaGreat
open Go.RowKit
/-- the image of a formula -/
def sg (σ : List Fm) (t : Fm) : Fm := subF (fun i => σ.getD i .fls) t
theorem sub_sg (σ : List Fm) (h6 : σ.length = 6) : ∀ t : Fm, OkF t → sub (σ.map Fm.enc) t.enc = (sg σ t).enc := by
  intro t
  induction t with
  | var i =>
    intro ht
    have hi : i < σ.length := by have : i < 6 := ht.1; omega
    simp [Fm.enc, sub, subN, sg, subF, List.getD_eq_getElem?_getD, hi]
  | fls => intro _; rfl
  | and x y hx hy =>
    intro ht
    have h1 := hx (OkF.and ht).1
    have h2 := hy (OkF.and ht).2
    simp only [sg] at h1 h2
    simp [Fm.enc, sub, subN, sub_append, h1, h2, sg, subF]
  | or x y hx hy =>
    intro ht
    have h1 := hx (OkF.or ht).1
    have h2 := hy (OkF.or ht).2
    simp only [sg] at h1 h2
    simp [Fm.enc, sub, subN, sub_append, h1, h2, sg, subF]
  | imp x y hx hy =>
    intro ht
    have h1 := hx (OkF.imp ht).1
    have h2 := hy (OkF.imp ht).2
    simp only [sg] at h1 h2
    simp [Fm.enc, sub, subN, sub_append, h1, h2, sg, subF]
  | box x _ => intro ht; exact absurd ht.2 (by simp [Fm.plain])
  | dia x _ => intro ht; exact absurd ht.2 (by simp [Fm.plain])
theorem sg_ok {σ : List Fm} (hσ : OkL σ) : ∀ t : Fm, OkF t → OkF (sg σ t) := by
  intro t
  induction t with
  | var i =>
    intro ht
    unfold sg subF
    rw [List.getD_eq_getElem?_getD]
    by_cases hi : i < σ.length
    · simp only [List.getElem?_eq_getElem hi, Option.getD_some]; exact hσ _ (List.getElem_mem hi)
    · simp only [List.getElem?_eq_none (Nat.le_of_not_lt hi), Option.getD_none]; exact okF_fls
  | fls => intro ht; exact ht
  | and x y hx hy =>
    intro ht
    have h1 := hx (OkF.and ht).1
    have h2 := hy (OkF.and ht).2
    exact ⟨⟨h1.1, h2.1⟩, by simp [sg, subF, Fm.plain]; exact ⟨h1.2, h2.2⟩⟩
  | or x y hx hy =>
    intro ht
    have h1 := hx (OkF.or ht).1
    have h2 := hy (OkF.or ht).2
    exact ⟨⟨h1.1, h2.1⟩, by simp [sg, subF, Fm.plain]; exact ⟨h1.2, h2.2⟩⟩
  | imp x y hx hy =>
    intro ht
    have h1 := hx (OkF.imp ht).1
    have h2 := hy (OkF.imp ht).2
    exact ⟨⟨h1.1, h2.1⟩, by simp [sg, subF, Fm.plain]; exact ⟨h1.2, h2.2⟩⟩
  | box x _ => intro ht; exact absurd ht.2 (by simp [Fm.plain])
  | dia x _ => intro ht; exact absurd ht.2 (by simp [Fm.plain])
/-- a substitution unifies a formula, and its image is small -/
noncomputable def okU (t : Fm) (σ : List Fm) : Bool := decide ((sg σ t).enc.length ≤ 20) && sqB [] (sg σ t)
/-- a substitution breaks a rule, and all images are small -/
noncomputable def okB (G : List Fm) (t : Fm) (σ : List Fm) : Bool := ((G ++ [t]).all fun a => decide ((sg σ a).enc.length ≤ 20)) && brk (G.map (sg σ)) (sg σ t)
/-- substitutions of small formulas -/
def Sm (σ : List Fm) : Prop := σ.length = 6 ∧ OkL σ ∧ ∀ x ∈ σ, x.enc.length ≤ 40
theorem Sm.of {σ cs : List Fm} (h6 : σ.length = 6) (hc : OkL cs) (h40 : ∀ c ∈ cs, c.enc.length ≤ 40) (hm : ∀ x ∈ σ, x ∈ idF ∨ x ∈ cs) : Sm σ :=
  ⟨h6, fun x hx => (hm x hx).elim (idF_ok x) (hc x), fun x hx => (hm x hx).elim (fun h => by simp [idF] at h; rcases h with rfl | rfl | rfl | rfl | rfl | rfl <;> simp [Fm.enc]) (h40 x)⟩
theorem Sm.len {σ : List Fm} (h : Sm σ) {t : Fm} (ht : OkF t) : (sg σ t).enc.length ≤ 40 * t.enc.length := by
  rw [← sub_sg σ h.1 t ht]
  refine sub_len (fun x hx => ?_) (by omega) _
  obtain ⟨y, hy, rfl⟩ := List.mem_map.1 hx
  exact h.2.2 y hy
--
set_option maxRecDepth 20000 in
set_option maxHeartbeats 1000000 in
theorem findU_1_any (t : Fm) (ht : OkF t) (hl : t.enc.length ≤ 40) (σ : List Fm) (hs : Sm σ) (va v : Value) (b : Nat) (w : World) (hb : w.cell? ⟨b, 0, none⟩ = some va) (hva : Nds w va t.enc) (hv : NdsL w v (σ.map Fm.enc)) :
    Calls Tryz.prog 107 #[v, .pointer (some ⟨b, 0, none⟩)] w fun e w' => e = .returned (.bool (okU t σ)) ∧ Keeps w w' := by
  have hsl := hs.len ht
  have hnd : t.enc.all okNd = true := List.all_eq_true.2 (okNd_enc ht.1)
  have hX := substitute_any (σ.map Fm.enc) t.enc va v w hva hv hnd (by simp [hs.1]) (by rw [sub_sg σ hs.1 t ht]; omega)
  rw [sub_sg σ hs.1 t ht] at hX
  have hok := sg_ok hs.2.1 t ht
  unfold okU
  generalize sg σ t = u at *
  have HX := hid hX; clear hX
  obtain ⟨p, n, cap, rfl⟩ := hva.shape
  obtain ⟨p1, n1, c1, rfl⟩ := NdsL.shapeL hv
  have hsm : (!([u.enc].any fun x => decide (20 < x.length))) = decide (u.enc.length ≤ 20) := by rw [Bool.eq_iff_iff]; simp
  have HS := hid (fun v w2 (hv : Nds w2 v u.enc) => haveSmall_any [u.enc] _ (w2.alloc (.cells #[v] 24)) (NdsL.lit1 hv))
  rw [hsm] at HS
  clear hsm hv hva hs hnd
  by_cases hbig : u.enc.length ≤ 20
  · rw [decide_eq_true hbig] at HS ⊢
    rw [Bool.true_and]
    have HT := hid (fun v w2 (hv : Nds w2 v u.enc) => isTheorem_any u hok hbig v w2 hv)
    go_enter Tryz.func107, Tryz.ntmps107
    go_wp2_with fail
    refine HX.out.mono ?_; rintro e w2 ⟨v2, rfl, hv2, k2⟩
    have hn2 := hv2.nds (by omega)
    obtain ⟨p4, n4, c4, rfl⟩ := hn2.shape
    have kl := (Keeps.refl w2).alloc (.cells #[.slice p4 n4 c4] 24)
    go_wp2_with fail
    refine (HS.out _ w2 hn2).mono ?_; rintro e w3 ⟨rfl, k3⟩
    go_wp2_with fail
    refine (HT.out _ w3 (hn2.keeps (kl.trans k3))).mono ?_; rintro e w4 ⟨rfl, k4⟩
    go_wp2_with fail
    go_ret
    exact ⟨rfl, (k2.trans (kl.trans k3)).trans k4⟩
  · rw [decide_eq_false hbig] at HS ⊢
    rw [Bool.false_and]
    go_enter Tryz.func107, Tryz.ntmps107
    go_wp2_with fail
    refine HX.out.mono ?_; rintro e w2 ⟨v2, rfl, hv2, k2⟩
    have hn2 := hv2.nds (by omega)
    obtain ⟨p4, n4, c4, rfl⟩ := hn2.shape
    have kl := (Keeps.refl w2).alloc (.cells #[.slice p4 n4 c4] 24)
    go_wp2_with fail
    refine (HS.out _ w2 hn2).mono ?_; rintro e w3 ⟨rfl, k3⟩
    go_wp2_with fail
    go_ret
    exact ⟨rfl, k2.trans (kl.trans k3)⟩
theorem enters_findU : Enters 107 := fun _ _ => by kernel_rfl
--
set_option maxRecDepth 20000 in
set_option maxHeartbeats 2000000 in
theorem findB_1_any (G : List Fm) (t : Fm) (hG : OkL (G ++ [t])) (hl : ∀ a ∈ G ++ [t], a.enc.length ≤ 40) (h6 : G.length ≤ 6) (σ : List Fm) (hs : Sm σ) (va vb v : Value) (b : Nat) (w : World)
    (hb : w.cell? ⟨b, 0, none⟩ = some va) (hb2 : w.cell? ⟨b, 1, none⟩ = some vb) (hva : FsL w va G) (hvb : Nds w vb t.enc) (hv : NdsL w v (σ.map Fm.enc)) :
    Calls Tryz.prog 103 #[v, .pointer (some ⟨b, 0, none⟩)] w fun e w' => e = .returned (.bool (okB G t σ)) ∧ Keeps w w' := by
  have hsl : ∀ a ∈ G ++ [t], (sg σ a).enc.length ≤ 1600 := fun a ha => by have := hs.len (hG a ha); have := hl a ha; omega
  have hGs : (G.map Fm.enc).map (sub (σ.map Fm.enc)) = (G.map (sg σ)).map Fm.enc := by
    rw [List.map_map, List.map_map]
    exact List.map_congr_left fun a ha => sub_sg σ hs.1 a (hG a (by simp [ha]))
  have hts := sub_sg σ hs.1 t (hG t (by simp))
  have hX := imageOf_any (G.map Fm.enc) t.enc (σ.map Fm.enc) va vb v w hva hvb hv (fun a ha => by
    have ha2 : a ∈ (G ++ [t]).map Fm.enc := by simpa using ha
    obtain ⟨x, hx, rfl⟩ := List.mem_map.1 ha2
    exact List.all_eq_true.2 (okNd_enc (hG x hx).1)) (by simp [hs.1]) (fun a ha => by
    have ha2 : a ∈ (G ++ [t]).map Fm.enc := by simpa using ha
    obtain ⟨x, hx, rfl⟩ := List.mem_map.1 ha2
    rw [sub_sg σ hs.1 x (hG x hx)]
    have := hsl x hx; omega) (by simp; omega)
  rw [hGs, hts] at hX
  have HX := hid hX
  have hok : OkL (G.map (sg σ)) := fun x hx => by
    obtain ⟨y, hy, rfl⟩ := List.mem_map.1 hx
    exact sg_ok hs.2.1 y (hG y (by simp [hy]))
  have hokt := sg_ok hs.2.1 t (hG t (by simp))
  have hlen : (G.map (sg σ)).length ≤ 6 := by simpa using h6
  have hsl2 : ∀ a ∈ G.map (sg σ) ++ [sg σ t], a.enc.length ≤ 1600 := fun a ha => by
    have ha2 : a ∈ (G ++ [t]).map (sg σ) := by simpa using ha
    obtain ⟨x, hx, rfl⟩ := List.mem_map.1 ha2
    exact hsl x hx
  have hokb : okB G t σ = (((G.map (sg σ) ++ [sg σ t]).all fun a => decide (a.enc.length ≤ 20)) && brk (G.map (sg σ)) (sg σ t)) := by
    unfold okB
    congr 1
    rw [show G.map (sg σ) ++ [sg σ t] = (G ++ [t]).map (sg σ) by simp, List.all_map]; rfl
  rw [hokb]
  obtain ⟨p, n, cap, rfl⟩ := NdsL.shapeL hva
  obtain ⟨pb, nb, capb, rfl⟩ := hvb.shape
  obtain ⟨p1, n1, c1, rfl⟩ := NdsL.shapeL hv
  clear hX hokb hts hGs hsl hva hvb hv hs hl hG h6
  generalize G.map (sg σ) = H at *
  generalize sg σ t = u at *
  have htG : tot (H.map Fm.enc) ≤ 1600 * (H.map Fm.enc).length := tot_most _ 1600 (fun x hx => by obtain ⟨a, ha, rfl⟩ := List.mem_map.1 hx; exact hsl2 a (List.mem_append.2 (.inl ha)))
  have htG2 : tot (H.map Fm.enc) ≤ 2147483648 ∧ (H.map Fm.enc).length ≤ 2147483648 := by simp at htG ⊢; omega
  have htl := hsl2 u (by simp)
  have HF := hid (fun v x w2 (h1 : NdsL w2 v (H.map Fm.enc)) (h2 : Nds w2 x u.enc) => formulas_any (H.map Fm.enc) u.enc v x w2 h1 h2 (by simp; omega))
  have hS := fun v w2 (h : NdsL w2 v ((H ++ [u]).map Fm.enc)) => haveSmall_any _ v w2 h
  have hany : (!(((H ++ [u]).map Fm.enc).any fun x => decide (20 < x.length))) = ((H ++ [u]).all fun a => decide (a.enc.length ≤ 20)) := by
    rw [Bool.eq_iff_iff]
    simp
  rw [hany] at hS
  have hmap : (H ++ [u]).map Fm.enc = H.map Fm.enc ++ [u.enc] := by simp
  rw [hmap] at hS
  clear hany hmap
  cases hbig : ((H ++ [u]).all fun a => decide (a.enc.length ≤ 20)) with
  | false =>
    rw [hbig] at hS
    have HS := hid hS
    rw [Bool.false_and]
    clear hbig hS
    go_enter Tryz.func103, Tryz.ntmps103
    go_wp2_with fail
    refine HX.out.mono ?_; rintro e w4 ⟨v4, u4, rfl, hR, k4⟩
    have hL4 := hR.ndsL htG2.2 htG2.1
    have hu4 := hR.nds (by omega)
    obtain ⟨p4, n4, q4, rfl⟩ := NdsL.shapeL hL4
    obtain ⟨p5, n5, q5, rfl⟩ := hu4.shape
    have kl := (Keeps.refl w4).alloc (.cells #[.slice p4 n4 q4, .slice p5 n5 q5] 37)
    have HF4 := hid (HF.out _ _ _ (hL4.keeps kl) (hu4.keeps kl))
    clear hR hL4 hu4
    go_wp2_with fail
    refine HF4.out.mono ?_; rintro e w5 ⟨v5, rfl, hv5, k5⟩
    go_wp2_with fail
    refine (HS.out _ w5 hv5).mono ?_; rintro e w6 ⟨rfl, k6⟩
    go_wp2_with fail
    go_ret
    exact ⟨rfl, (k4.trans (kl.trans k5)).trans k6⟩
  | true =>
    have hl20 : ∀ a ∈ H ++ [u], a.enc.length ≤ 20 := fun a ha => by
      have := List.all_eq_true.1 hbig a ha
      simpa using this
    have HBr := hid (fun v x w2 (h1 : FsL w2 v H) (h2 : Nds w2 x u.enc) => isBroken_any H u hok hokt hl20 v x w2 h1 h2)
    rw [hbig] at hS
    have HS := hid hS
    rw [Bool.true_and]
    clear hbig hS
    go_enter Tryz.func103, Tryz.ntmps103
    go_wp2_with fail
    refine HX.out.mono ?_; rintro e w4 ⟨v4, u4, rfl, hR, k4⟩
    have hL4 := hR.ndsL htG2.2 htG2.1
    have hu4 := hR.nds (by omega)
    obtain ⟨p4, n4, q4, rfl⟩ := NdsL.shapeL hL4
    obtain ⟨p5, n5, q5, rfl⟩ := hu4.shape
    have kl := (Keeps.refl w4).alloc (.cells #[.slice p4 n4 q4, .slice p5 n5 q5] 37)
    have ra : (w4.alloc (.cells #[.slice p4 n4 q4, .slice p5 n5 q5] 37)).cell? ⟨w4.heap.size, 0, none⟩ = some (.slice p4 n4 q4) := by simp
    have rb : (w4.alloc (.cells #[.slice p4 n4 q4, .slice p5 n5 q5] 37)).cell? ⟨w4.heap.size, 1, none⟩ = some (.slice p5 n5 q5) := by simp
    have HF4 := hid (HF.out _ _ _ (hL4.keeps kl) (hu4.keeps kl))
    have HBr4 := hid (fun w2 (k : Keeps w4 w2) => HBr.out _ _ w2 (hL4.keeps k) (hu4.keeps k))
    clear hR hL4 hu4
    go_wp2_with fail
    refine HF4.out.mono ?_; rintro e w5 ⟨v5, rfl, hv5, k5⟩
    go_wp2_with fail
    refine (HS.out _ w5 hv5).mono ?_; rintro e w6 ⟨rfl, k6⟩
    obtain ⟨s1, s2⟩ := cells_keeps (k5.trans k6) (And.intro ra rb)
    go_wp2_with fail
    refine (HBr4.out w6 (kl.trans (k5.trans k6))).mono ?_; rintro e w7 ⟨rfl, k7⟩
    go_wp2_with fail
    go_ret
    exact ⟨rfl, (k4.trans (kl.trans (k5.trans k6))).trans k7⟩
theorem enters_findB : Enters 103 := fun _ _ => by kernel_rfl
/-- the error of candidates -/
def candE (m n : Nat) (s : Bool) : Int := if 8 < m then 2 else if 600 < m ^ n ∨ s = false then 3 else 0
--
set_option maxRecDepth 20000 in
set_option maxHeartbeats 1000000 in
theorem candidateCode_any (vs : List Int) (cs : List (List Nd)) (s : Bool) (v u : Value) (w : World) (hu : NdsL w u cs) (hv : Ints w v vs) (h6 : vs.length ≤ 6) :
    Calls Tryz.prog 101 #[u, v, .bool s] w fun e w' => e = .returned (.int .i64 (candE cs.length vs.length s)) ∧ w = w' := by
  obtain ⟨p, cap, rfl, hle, hmx, hx1, hx2⟩ := hv
  obtain ⟨q, dap, rfl, hle2, hmx2, hx3, hx4⟩ := hu
  unfold maxLen at hmx hmx2
  clear hx1 hx2 hx3 hx4
  generalize hm : cs.length = m at *
  generalize hn : vs.length = n at *
  by_cases h8 : 8 < m
  · have h8' : (8 : Int) < m := by omega
    have he : candE m n s = 2 := by unfold candE; rw [if_pos h8]
    rw [he]
    go_enter Tryz.func101, Tryz.ntmps101
    go_wp2
    go_ret
    exact ⟨rfl, rfl⟩
  · have h8' : ¬ (8 : Int) < m := by omega
    have he : candE m n s = if 600 < m ^ n ∨ s = false then 3 else 0 := by unfold candE; rw [if_neg h8]
    have hpow : ∀ k, k ≤ 6 → m ^ k ≤ 262144 := fun k hk => by
      have h1 : m ^ k ≤ 8 ^ k := Nat.pow_le_pow_left (by omega) k
      have h2 : 8 ^ k ≤ 8 ^ 6 := Nat.pow_le_pow_right (by omega) hk
      omega
    have HP := hid hpow; clear hpow
    have hm8 : m ≤ 8 := by omega
    rw [he]
    clear he
    generalize hN : m ^ n = N
    have HN := hid hN; clear hN
    have hp : ∀ k, m ^ (k + 1) = m ^ k * m := fun k => Nat.pow_succ ..
    have HPS := hid hp; clear hp
    by_cases hbig : 600 < N
    · rw [if_pos (.inl hbig)]
      have hbig' : (600 : Int) < N := by omega
      go_enter Tryz.func101, Tryz.ntmps101
      go_wp2
      go_loop [7, 13] (fun c i' => ∃ k : Nat, k ≤ n ∧ i' = .int .i64 k ∧ c = .int .i64 (m ^ k : Nat)) (fun _ i => n - (intOf i).toNat)
      case atStart => exact ⟨0, by omega, rfl, by simp⟩
      case round =>
        obtain ⟨k, hk, rfl, rfl⟩ := hrel
        by_cases hlt : k < n
        · have hlt' : (k : Int) < n := by omega
          have hb := HP.out k (by omega)
          have hb' := HP.out (k + 1) (by omega)
          have hs := hid (HPS.out k)
          rw [hs.out] at hb'
          generalize m ^ k = x at *
          have hcm : (x : Int) * (m : Int) = ((x * m : Nat) : Int) := by push_cast; rfl
          have hb0 : 0 ≤ (x : Int) * (m : Int) := by rw [hcm]; omega
          have hb1 : (x : Int) * (m : Int) ≤ 262144 := by rw [hcm]; omega
          have HCM := hid hcm; clear hcm hb'
          go_wp2
          go_round
          case rel => exact ⟨k + 1, by omega, by go_num, by rw [hs.out, ← HCM.out]⟩
          case measure => simp [intOf]; omega
        · obtain rfl : k = n := by omega
          have hlt' : ¬ (k : Int) < k := by omega
          rw [HN.out]
          go_wp2
          go_ret
          exact ⟨rfl, rfl⟩
    · have hbig' : ¬ (600 : Int) < N := by omega
      have hif : (if 600 < N ∨ s = false then (3 : Int) else 0) = if s then 0 else 3 := by cases s <;> simp [hbig]
      rw [hif]
      cases s
      all_goals
        simp only [Bool.false_eq_true, if_true, if_false]
        go_enter Tryz.func101, Tryz.ntmps101
        go_wp2
        go_loop [7, 13] (fun c i' => ∃ k : Nat, k ≤ n ∧ i' = .int .i64 k ∧ c = .int .i64 (m ^ k : Nat)) (fun _ i => n - (intOf i).toNat)
        case atStart => exact ⟨0, by omega, rfl, by simp⟩
        case round =>
          obtain ⟨k, hk, rfl, rfl⟩ := hrel
          by_cases hlt : k < n
          · have hlt' : (k : Int) < n := by omega
            have hb := HP.out k (by omega)
            have hb' := HP.out (k + 1) (by omega)
            have hs := hid (HPS.out k)
            rw [hs.out] at hb'
            generalize m ^ k = x at *
            have hcm : (x : Int) * (m : Int) = ((x * m : Nat) : Int) := by push_cast; rfl
            have hb0 : 0 ≤ (x : Int) * (m : Int) := by rw [hcm]; omega
            have hb1 : (x : Int) * (m : Int) ≤ 262144 := by rw [hcm]; omega
            have HCM := hid hcm; clear hcm hb'
            go_wp2
            go_round
            case rel => exact ⟨k + 1, by omega, by go_num, by rw [hs.out, ← HCM.out]⟩
            case measure => simp [intOf]; omega
          · obtain rfl : k = n := by omega
            have hlt' : ¬ (k : Int) < k := by omega
            rw [HN.out]
            go_wp2
            go_ret
            exact ⟨rfl, rfl⟩
end Go.Proofs.YtodeecmhcfbheaaGreat
