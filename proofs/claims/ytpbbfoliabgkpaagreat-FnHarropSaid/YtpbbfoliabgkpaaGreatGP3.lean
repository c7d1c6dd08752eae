/- Plain mathematics: the first of all substitutions by candidates for which a condition holds; counting them. No program in sight. -/
import Derived.Test.YtpbbfoliabgkpaaGreatGBase
import Derived.Test.YtpbbfoliabgkpaaGreatGM2
import Derived.Test.YtpbbfoliabgkpaaGreatGM1
namespace Go.Proofs.YtpbbfoliabgkpaaGreat
section
variable {β : Type}
/-- the first substitution by candidates for which P answers yes; the first variable turns slowest -/
def firstC (P : List β → Bool) (cs : List β) : List Int → List β → Option (List β)
  | [], ims => if P ims then some ims else none
  | v :: vs, ims => cs.findSome? fun c => firstC P cs vs (ims.set v.toNat c)
/-- alike but at some variables -/
def Agree (vs : List Int) (a b : List β) : Prop := a.length = b.length ∧ ∀ i : Nat, (i : Int) ∉ vs → a[i]? = b[i]?
theorem Agree.refl (vs : List Int) (a : List β) : Agree vs a a := ⟨rfl, fun _ _ => rfl⟩
theorem Agree.trans {vs : List Int} {a b c : List β} (h : Agree vs a b) (k : Agree vs b c) : Agree vs a c := ⟨h.1.trans k.1, fun i hi => (h.2 i hi).trans (k.2 i hi)⟩
theorem Agree.symm {vs : List Int} {a b : List β} (h : Agree vs a b) : Agree vs b a := ⟨h.1.symm, fun i hi => (h.2 i hi).symm⟩
theorem Agree.nil {a b : List β} (h : Agree [] a b) : a = b := List.ext_getElem? fun i => h.2 i (by simp)
theorem Agree.mono {vs us : List Int} {a b : List β} (h : Agree vs a b) (hs : ∀ x ∈ vs, x ∈ us) : Agree us a b := ⟨h.1, fun i hi => h.2 i (fun e => hi (hs _ e))⟩
theorem Agree.set {v : Int} {vs : List Int} {a b : List β} (h : Agree (v :: vs) a b) (c : β) (hv : 0 ≤ v) : Agree vs (a.set v.toNat c) (b.set v.toNat c) :=
  ⟨by simp [h.1], fun i hi => by
    by_cases e : v.toNat = i
    · subst e
      by_cases hl : v.toNat < a.length
      · rw [List.getElem?_set_self hl, List.getElem?_set_self (by rw [← h.1]; exact hl)]
      · rw [List.getElem?_eq_none (by simp; omega), List.getElem?_eq_none (by have := h.1; simp; omega)]
    · rw [List.getElem?_set_ne e, List.getElem?_set_ne e]
      refine h.2 i (fun hm => ?_)
      rcases List.mem_cons.1 hm with h1 | h1
      · omega
      · exact hi h1⟩
theorem Agree.setL {v : Int} {vs : List Int} (a : List β) (c : β) (hv : 0 ≤ v) : Agree (v :: vs) (a.set v.toNat c) a :=
  ⟨by simp, fun i hi => by
    have : v.toNat ≠ i := fun e => hi (by rw [← e]; simp; omega)
    rw [List.getElem?_set_ne this]⟩
theorem findSome_congr {α γ : Type} {f g : α → Option γ} : ∀ (l : List α), (∀ x ∈ l, f x = g x) → l.findSome? f = l.findSome? g
  | [], _ => rfl
  | x :: l, h => by
    rw [List.findSome?_cons, List.findSome?_cons, h x (by simp), findSome_congr l (fun y hy => h y (by simp [hy]))]
theorem firstC_agree (P : List β → Bool) (cs : List β) : ∀ (vs : List Int), (∀ v ∈ vs, 0 ≤ v) → ∀ a b, Agree vs a b → firstC P cs vs a = firstC P cs vs b
  | [], _, a, b, h => by rw [h.nil]
  | v :: vs, hp, a, b, h => findSome_congr cs fun c _ => firstC_agree P cs vs (fun x hx => hp x (by simp [hx])) _ _ (h.set c (hp v (by simp)))
theorem firstC_at (P : List β → Bool) (cs : List β) (v : Int) (vs : List Int) (a r : List β) : ∀ (j : Nat) (hj : j < cs.length), (∀ t (ht : t < cs.length), t < j → firstC P cs vs (a.set v.toNat cs[t]) = none) → firstC P cs vs (a.set v.toNat cs[j]) = some r → firstC P cs (v :: vs) a = some r := by
  have gen : ∀ (l : List β) (f : β → Option (List β)) (j : Nat) (hj : j < l.length), (∀ t (ht : t < l.length), t < j → f l[t] = none) → f l[j] = some r → l.findSome? f = some r := by
    intro l f
    induction l with
    | nil => intro j hj; simp at hj
    | cons y l ih =>
      intro j hj h1 h2
      cases j with
      | zero => rw [List.findSome?_cons]; simp only [List.getElem_cons_zero] at h2; rw [h2]
      | succ j =>
        have h0 := h1 0 (by simp) (by omega)
        simp only [List.getElem_cons_zero] at h0
        rw [List.findSome?_cons, h0]
        exact ih j (by simpa using hj) (fun t ht htj => by
          have h3 := h1 (t + 1) (by simpa using ht) (by omega)
          simp only [List.getElem_cons_succ] at h3; exact h3) (by simp only [List.getElem_cons_succ] at h2; exact h2)
  intro j hj h1 h2
  exact gen cs _ j hj h1 h2
theorem firstC_end (P : List β → Bool) (cs : List β) (v : Int) (vs : List Int) (a : List β) (h : ∀ t (ht : t < cs.length), firstC P cs vs (a.set v.toNat cs[t]) = none) : firstC P cs (v :: vs) a = none := by
  unfold firstC
  rw [List.findSome?_eq_none_iff]
  intro c hc
  obtain ⟨t, ht, rfl⟩ := List.getElem_of_mem hc
  exact h t ht
/-- what is found agrees with what was there outside the variables -/
theorem firstC_out (P : List β → Bool) (cs : List β) : ∀ (vs : List Int), (∀ v ∈ vs, 0 ≤ v) → ∀ a r, firstC P cs vs a = some r → Agree vs r a ∧ P r = true
  | [], _, a, r, h => by
    unfold firstC at h
    split at h
    · cases h; exact ⟨Agree.refl _ _, by assumption⟩
    · cases h
  | v :: vs, hp, a, r, h => by
    obtain ⟨c, _, h1⟩ := List.exists_of_findSome?_eq_some h
    obtain ⟨h2, h3⟩ := firstC_out P cs vs (fun x hx => hp x (by simp [hx])) _ _ h1
    exact ⟨(h2.mono (fun x hx => by simp [hx])).trans (Agree.setL a c (hp v (by simp))), h3⟩
/-- all of what is found comes from what was there and from the candidates -/
theorem firstC_mem (P : List β → Bool) (cs : List β) : ∀ (vs : List Int) a r, firstC P cs vs a = some r → ∀ x ∈ r, x ∈ a ∨ x ∈ cs
  | [], a, r, h => by
    unfold firstC at h
    split at h
    · cases h; exact fun x hx => .inl hx
    · cases h
  | v :: vs, a, r, h => by
    obtain ⟨c, hc, h1⟩ := List.exists_of_findSome?_eq_some h
    intro x hx
    rcases firstC_mem P cs vs _ _ h1 x hx with h2 | h2
    · rcases List.mem_or_eq_of_mem_set h2 with h3 | h3
      · exact .inl h3
      · exact .inr (h3 ▸ hc)
    · exact .inr h2
/-- the substitution with a number; the variables stand in reverse -/
def pickC (cs : List β) : List Int → Nat → List β → List β
  | [], _, ims => ims
  | v :: vs, n, ims => match cs[n % cs.length]? with
    | none => ims
    | some c => pickC cs vs (n / cs.length) (ims.set v.toNat c)
theorem set_comm {l : List β} {i j : Nat} (h : i ≠ j) (x y : β) : (l.set i x).set j y = (l.set j y).set i x := List.set_comm x y h
theorem pickC_set (cs : List β) (v : Int) (c : β) : ∀ (vs : List Int), (∀ x ∈ vs, x.toNat ≠ v.toNat) → ∀ n ims, pickC cs vs n (ims.set v.toNat c) = (pickC cs vs n ims).set v.toNat c
  | [], _, n, ims => rfl
  | u :: vs, h, n, ims => by
    simp only [pickC]
    cases cs[n % cs.length]? with
    | none => rfl
    | some d =>
      simp only []
      rw [set_comm (h u (by simp)).symm, pickC_set cs v c vs (fun x hx => h x (by simp [hx]))]
theorem pickC_snoc (cs : List β) (hc : 0 < cs.length) (v : Int) : ∀ (vs : List Int) n ims, pickC cs (vs ++ [v]) n ims = (pickC cs vs n ims).set v.toNat (cs[(n / cs.length ^ vs.length) % cs.length]'(Nat.mod_lt _ hc))
  | [], n, ims => by
    have h1 : n % cs.length < cs.length := Nat.mod_lt _ hc
    simp [pickC, h1]
  | u :: vs, n, ims => by
    have h1 : n % cs.length < cs.length := Nat.mod_lt _ hc
    simp only [List.cons_append, pickC, List.getElem?_eq_getElem h1]
    rw [pickC_snoc cs hc v vs]
    congr 2
    rw [Nat.div_div_eq_div_mul, List.length_cons, Nat.pow_succ, Nat.mul_comm]
theorem pickC_mod (cs : List β) (hc : 0 < cs.length) : ∀ (vs : List Int) (k n : Nat) ims, vs.length ≤ k → pickC cs vs (n % cs.length ^ k) ims = pickC cs vs n ims
  | [], k, n, ims, _ => rfl
  | u :: vs, 0, n, ims, h => by simp at h
  | u :: vs, k + 1, n, ims, h => by
    have h1 : n % cs.length < cs.length := Nat.mod_lt _ hc
    have e1 : n % cs.length ^ (k + 1) % cs.length = n % cs.length := Nat.mod_mod_of_dvd n ⟨cs.length ^ k, by rw [Nat.pow_succ, Nat.mul_comm]⟩
    have e2 : n % cs.length ^ (k + 1) / cs.length = (n / cs.length) % cs.length ^ k := by
      rw [Nat.pow_succ, Nat.mul_comm, Nat.mod_mul_right_div_self]
    simp only [pickC, e1, e2, List.getElem?_eq_getElem h1]
    exact pickC_mod cs hc vs k _ _ (by simpa using h)
theorem findSome_range_mul {γ : Type} (f : Nat → Option γ) (K : Nat) : ∀ n, (List.range (n * K)).findSome? f = (List.range n).findSome? fun q => (List.range K).findSome? fun r => f (q * K + r)
  | 0 => by simp
  | n + 1 => by
    rw [List.range_succ, List.findSome?_append, ← findSome_range_mul f K n, Nat.succ_mul, List.range_add, List.findSome?_append, List.findSome?_map]
    congr 1
    simp only [List.findSome?_cons, List.findSome?_nil]
    have : (f ∘ fun x => n * K + x) = fun r => f (n * K + r) := rfl
    rw [this]
    cases (List.range K).findSome? (fun r => f (n * K + r)) <;> rfl
theorem findSome_range_get {γ : Type} (g : β → Option γ) : ∀ (cs : List β), (List.range cs.length).findSome? (fun q => (cs[q]?).bind g) = cs.findSome? g := by
  intro cs
  induction cs with
  | nil => rfl
  | cons c cs ih =>
    rw [List.length_cons, List.range_succ_eq_map, List.findSome?_cons, List.findSome?_cons, List.findSome?_map, ← ih]
    rfl
/-- a test of one substitution -/
def testC (P : List β → Bool) (ims : List β) : Option (List β) := if P ims then some ims else none
/-- all numbers in order find the same -/
theorem firstC_pick (P : List β → Bool) (cs : List β) (hc : 0 < cs.length) : ∀ (vs : List Int), (vs.map Int.toNat).Nodup → ∀ ims,
    firstC P cs vs ims = (List.range (cs.length ^ vs.length)).findSome? fun n => testC P (pickC cs vs.reverse n ims)
  | [], _, ims => by simp [firstC, testC, pickC, List.range_succ]
  | v :: vs, hn, ims => by
    have hn' : v.toNat ∉ vs.map Int.toNat ∧ (vs.map Int.toNat).Nodup := by simpa using hn
    have hne : ∀ x ∈ vs.reverse, x.toNat ≠ v.toNat := fun x hx e => hn'.1 (List.mem_map.2 ⟨x, by simpa using hx, e⟩)
    rw [List.length_cons, Nat.pow_succ, Nat.mul_comm, findSome_range_mul, firstC, ← findSome_range_get]
    refine findSome_congr _ fun q hq => ?_
    have hq' : q < cs.length := List.mem_range.1 hq
    rw [List.getElem?_eq_getElem hq', Option.bind_some, firstC_pick P cs hc vs hn'.2]
    refine findSome_congr _ fun r hr => ?_
    have hr' : r < cs.length ^ vs.length := List.mem_range.1 hr
    have hK : 0 < cs.length ^ vs.length := Nat.pow_pos hc
    rw [List.reverse_cons, pickC_snoc cs hc v, pickC_set cs v _ _ hne]
    have e1 : (q * cs.length ^ vs.length + r) / cs.length ^ vs.reverse.length % cs.length = q := by
      rw [List.length_reverse, Nat.mul_comm, Nat.mul_add_div hK, Nat.div_eq_of_lt hr', Nat.add_zero, Nat.mod_eq_of_lt hq']
    have e2 : pickC cs vs.reverse (q * cs.length ^ vs.length + r) ims = pickC cs vs.reverse r ims := by
      rw [← pickC_mod cs hc vs.reverse vs.length (q * cs.length ^ vs.length + r) ims (by simp), Nat.mul_comm, Nat.mul_add_mod, Nat.mod_eq_of_lt hr']
    simp only [e1, e2]
/-- no candidate, but a variable: nothing is found -/
theorem firstC_none (P : List β → Bool) (vs : List Int) (hv : 0 < vs.length) (ims : List β) : firstC P [] vs ims = none := by
  cases vs with
  | nil => simp at hv
  | cons v vs => rfl
theorem findSome_range_at {γ : Type} (f : Nat → Option γ) (r : γ) : ∀ (N k : Nat), k < N → (∀ j, j < k → f j = none) → f k = some r → (List.range N).findSome? f = some r
  | 0, k, h, _, _ => by omega
  | N + 1, k, h, hn, hf => by
    rw [List.range_succ, List.findSome?_append]
    by_cases e : k < N
    · rw [findSome_range_at f r N k e hn hf]; rfl
    · obtain rfl : k = N := by omega
      have : (List.range k).findSome? f = none := by
        rw [List.findSome?_eq_none_iff]; intro j hj; exact hn j (by simpa using hj)
      rw [this, List.findSome?_cons, hf]; rfl
theorem pow_posC {m n : Nat} {k : Nat} (h : k < m ^ n) : n = 0 ∨ 0 < m := by
  rcases Nat.eq_zero_or_pos n with e | e
  · exact .inl e
  · rcases Nat.eq_zero_or_pos m with e2 | e2
    · subst e2
      rw [Nat.zero_pow e] at h; omega
    · exact .inr e2
theorem firstC_found (P : List β → Bool) (cs : List β) (vs : List Int) (hd : (vs.map Int.toNat).Nodup) (ims : List β) (k : Nat) (hk : k < cs.length ^ vs.length)
    (hn : ∀ j, j < k → testC P (pickC cs vs.reverse j ims) = none) (h : P (pickC cs vs.reverse k ims) = true) : firstC P cs vs ims = some (pickC cs vs.reverse k ims) := by
  have hf : testC P (pickC cs vs.reverse k ims) = some (pickC cs vs.reverse k ims) := by unfold testC; rw [if_pos h]
  rcases pow_posC hk with e | e
  · obtain rfl := List.eq_nil_of_length_eq_zero e
    have hp : P ims = true := h
    simp [firstC, pickC, hp]
  · rw [firstC_pick P cs e vs hd]
    exact findSome_range_at _ _ _ k hk hn hf
theorem firstC_lost (P : List β → Bool) (cs : List β) (vs : List Int) (hd : (vs.map Int.toNat).Nodup) (ims : List β)
    (hn : ∀ j, j < cs.length ^ vs.length → testC P (pickC cs vs.reverse j ims) = none) : firstC P cs vs ims = none := by
  rcases Nat.eq_zero_or_pos vs.length with e | e
  · obtain rfl := List.eq_nil_of_length_eq_zero e
    have := hn 0 (by simp)
    unfold testC at this
    simp only [List.reverse_nil, pickC] at this
    unfold firstC
    exact this
  · rcases Nat.eq_zero_or_pos cs.length with e2 | e2
    · obtain rfl := List.eq_nil_of_length_eq_zero e2
      exact firstC_none P vs e ims
    · rw [firstC_pick P cs e2 vs hd, List.findSome?_eq_none_iff]
      intro j hj
      exact hn j (by simpa using hj)
theorem testC_none {P : List β → Bool} {ims : List β} : testC P ims = none ↔ P ims = false := by
  unfold testC
  cases P ims <;> simp
theorem pickC_mem (cs : List β) : ∀ (vs : List Int) n a, ∀ x ∈ pickC cs vs n a, x ∈ a ∨ x ∈ cs
  | [], _, a => fun x hx => .inl hx
  | v :: vs, n, a => by
    intro x hx
    simp only [pickC] at hx
    cases hg : cs[n % cs.length]? with
    | none => rw [hg] at hx; exact .inl hx
    | some c =>
      rw [hg] at hx
      rcases pickC_mem cs vs _ _ x hx with h2 | h2
      · rcases List.mem_or_eq_of_mem_set h2 with h3 | h3
        · exact .inl h3
        · exact .inr (h3 ▸ List.mem_of_getElem? hg)
      · exact .inr h2
theorem pickC_len (cs : List β) : ∀ (vs : List Int) n a, (pickC cs vs n a).length = a.length
  | [], _, _ => rfl
  | v :: vs, n, a => by
    simp only [pickC]
    cases cs[n % cs.length]? with
    | none => rfl
    | some c => simp [pickC_len cs vs]
end
/-- how many substitutions there are, but at most 601 -/
def cap601 (m : Nat) : Nat → Nat
  | 0 => 1
  | k + 1 => min (cap601 m k * m) 601
theorem cap601_eq (m : Nat) : ∀ k, cap601 m k = min (m ^ k) 601
  | 0 => by simp [cap601]
  | k + 1 => by
    have h := cap601_eq m k
    rw [cap601, h, Nat.pow_succ]
    by_cases h1 : m ^ k ≤ 601
    · rw [Nat.min_eq_left h1]
    · have h2 : 601 ≤ m ^ k := by omega
      rw [Nat.min_eq_right h2]
      rcases Nat.eq_zero_or_pos m with h0 | h0
      · subst h0; simp
      · have h3 : m ^ k ≤ m ^ k * m := Nat.le_mul_of_pos_right _ h0
        have h4 : 601 ≤ 601 * m := Nat.le_mul_of_pos_right _ h0
        omega
end Go.Proofs.YtpbbfoliabgkpaaGreat
/- Walks: the variables of lists of formulas, on both sides. -/
namespace Go.Proofs.YtpbbfoliabgkpaaGreat
open Go.RowKit
/-- the mask of the variables of formulas -/
def vmL (l : List (List Nd)) : Nat := l.foldl (fun m a => m ||| vm a) 0
theorem vmL_take (l : List (List Nd)) (k : Nat) (h : k < l.length) : vmL (l.take (k + 1)) = vmL (l.take k) ||| vm l[k] := by
  unfold vmL; rw [List.take_succ_eq_append_getElem h, List.foldl_append]; rfl
theorem vm_64 {a : List Nd} (h : a.all okNd = true) : vm a < 64 := by
  have := vm_lt h a.length (Nat.le_refl _)
  rwa [List.take_length] at this
theorem vmL_lt {l : List (List Nd)} (h : ∀ a ∈ l, a.all okNd = true) : ∀ k, k ≤ l.length → vmL (l.take k) < 64
  | 0, _ => by simp [vmL]
  | k + 1, hk => by
    rw [vmL_take l k (by omega)]
    exact Nat.or_lt_two_pow (n := 6) (vmL_lt h k (by omega)) (vm_64 (h _ (List.getElem_mem (by omega))))
theorem vmL_one (a : List Nd) : vmL [a] = vm a := by simp [vmL]
theorem or64 : ∀ (m n : Fin 64), bits BinOp.or IntKind.i64 ((m : Nat) : Int) ((n : Nat) : Int) = (((m : Nat) ||| (n : Nat) : Nat) : Int) := by decide +kernel
theorem mem_nodup : ∀ m : Fin 64, ((mem m).map Int.toNat).Nodup := by decide +kernel
theorem mem_or : ∀ (m n : Fin 64), (mem n).foldl (fun acc i => acc ||| 2 ^ i.toNat) (m : Nat) = (m : Nat) ||| (n : Nat) := by decide +kernel
theorem mem_fold_lt (l : List Int) (h : ∀ x ∈ l, ∃ k : Nat, k < 6 ∧ x = k) : ∀ m, m < 64 → l.foldl (fun acc i => acc ||| 2 ^ i.toNat) m < 64 := by
  induction l with
  | nil => intro m hm; exact hm
  | cons x l ih =>
    intro m hm
    obtain ⟨k, hk, rfl⟩ := h x (by simp)
    exact ih (fun y hy => h y (by simp [hy])) _ (or_lt ⟨m, hm⟩ ⟨k, hk⟩)
--
set_option maxRecDepth 20000 in
set_option maxHeartbeats 1000000 in
theorem variablesIn_any (l : List (List Nd)) (v : Value) (w : World) (hv : NdsL w v l) (ha : ∀ a ∈ l, a.all okNd = true) : Calls Tryz.prog 99 #[v] w (RetI w (mem (vmL l))) := by
  have hv0 := hv
  obtain ⟨p, cap, rfl, hle, hmx, hlen, _⟩ := hv
  unfold maxLen at hmx
  have HA := hid ha
  have HL := hid (vmL_lt ha); clear ha
  have HM := hid (fun w2 => membersOf_any (vmL l) w2 (by have := HL.out l.length (Nat.le_refl _); rwa [List.take_length] at this))
  go_enter Tryz.func99, Tryz.ntmps99
  go_wp2
  go_loopw [3, 8] (fun c i' wr => ∃ k : Nat, k ≤ l.length ∧ i' = .int .i64 k ∧ c = .int .i64 (vmL (l.take k)) ∧ Keeps w wr) (fun _ i _ => l.length - (intOf i).toNat)
  case atStart => exact ⟨0, by omega, rfl, rfl, Keeps.refl w⟩
  case round =>
    obtain ⟨k, hk, rfl, rfl, kw⟩ := hrel
    by_cases hlt : k < l.length
    · have hlt' : (k : Int) < l.length := by omega
      obtain ⟨b, off, u, rfl, hc, hu⟩ := (NdsL.keeps hv0 kw).get k hlt
      obtain ⟨pu, nu, cu, rfl⟩ := hu.shape
      have hok := HA.out _ (List.getElem_mem hlt)
      have hst := vmL_take l k hlt
      have hor := or64 ⟨vmL (l.take k), HL.out k hk⟩ ⟨vm l[k], vm_64 hok⟩
      simp only at hor
      rw [← hst] at hor
      have HV := hid (variableMask_any l[k] _ wr hu hok)
      have HO := hid hor; clear hor hst hu hok hv0
      generalize vm l[k] = y at *
      generalize vmL (l.take k) = x at *
      go_wp2_with fail
      refine HV.out.mono ?_; rintro e w2 ⟨rfl, k2⟩
      go_wp2_with fail
      go_roundw
      case rel => exact ⟨k + 1, by omega, by go_num, by rw [HO.out], kw.trans k2⟩
      case measure => simp [intOf]; omega
    · obtain rfl : k = l.length := by omega
      have hlt' : ¬ (l.length : Int) < l.length := by omega
      rw [List.take_length]
      go_wp2_with fail
      refine (HM.out _).mono ?_; rintro e w2 ⟨v2, rfl, hv2, k2⟩
      go_wp2_with fail
      go_ret
      exact ⟨_, rfl, hv2.mono kw.size, kw.trans k2⟩
--
set_option maxRecDepth 20000 in
set_option maxHeartbeats 1000000 in
theorem l06Variables_any (l : List (List Nd)) (v : Value) (w : World) (hv : NdsL w v l) (ha : ∀ a ∈ l, a.all okNd = true) : Calls Tryz.prog 196 #[v] w (RetI w (mem (vmL l))) := by
  have hv0 := hv
  obtain ⟨p, cap, rfl, hle, hmx, hlen, _⟩ := hv
  unfold maxLen at hmx
  have HA := hid ha
  have HL := hid (vmL_lt ha); clear ha
  have HM := hid (fun w2 => l01List_any (vmL l) w2 (by have := HL.out l.length (Nat.le_refl _); rwa [List.take_length] at this))
  go_enter Tryz.func196, Tryz.ntmps196
  go_wp2
  go_loopw [3, 4] (fun c i' wr => ∃ k : Nat, k ≤ l.length ∧ i' = .int .i64 k ∧ c = .int .i64 (vmL (l.take k)) ∧ Keeps w wr) (fun _ i _ => l.length - (intOf i).toNat)
  case atStart => exact ⟨0, by omega, rfl, rfl, Keeps.refl w⟩
  case round =>
    obtain ⟨k, hk, rfl, rfl, kw⟩ := hrel
    by_cases hlt : k < l.length
    · have hlt' : (k : Int) < l.length := by omega
      obtain ⟨b, off, u, rfl, hc, hu⟩ := (NdsL.keeps hv0 kw).get k hlt
      obtain ⟨pu, nu, cu, rfl⟩ := hu.shape
      have hok := HA.out _ (List.getElem_mem hlt)
      have hx := HL.out k hk
      have hst := vmL_take l k hlt
      have hmo := mem_or ⟨vmL (l.take k), hx⟩ ⟨vm l[k], vm_64 hok⟩
      simp only at hmo
      rw [← hst] at hmo
      have HO := hid hmo
      have HR := hid (mem_range (vm l[k]))
      have hml := low_len (vm l[k]) 6
      change (mem (vm l[k])).length ≤ 6 at hml
      have HV := hid (l02Variables_any l[k] _ wr hu hok)
      clear hst hmo hu hok
      generalize mem (vm l[k]) = M at *
      generalize vmL (l.take k) = x at *
      go_wp2_with fail
      refine HV.out.mono ?_; rintro e w2 ⟨v2, rfl, hv2, k2⟩
      obtain ⟨p2, c2, rfl, _, hm2, hat2, _⟩ := hv2.ints (by omega)
      unfold maxLen at hm2
      have HT := hid hat2; clear hat2
      have kw2 := hid (kw.trans k2)
      go_wp2_with fail
      go_loop [3, 6] (fun c i' => ∃ j : Nat, j ≤ M.length ∧ i' = .int .i64 j ∧ c = .int .i64 ((M.take j).foldl (fun acc i => acc ||| 2 ^ i.toNat) x : Nat)) (fun _ i => M.length - (intOf i).toNat)
      case atStart => exact ⟨0, by omega, rfl, rfl⟩
      case round =>
        obtain ⟨j, hj, rfl, rfl⟩ := hrel
        by_cases hjt : j < M.length
        · have hjt' : (j : Int) < M.length := by omega
          obtain ⟨b2, o2, rfl, hc2⟩ := HT.out.int j hjt
          obtain ⟨s, hs6, hs⟩ := HR.out M[j] (List.getElem_mem hjt)
          have hf : (M.take (j + 1)).foldl (fun acc i => acc ||| 2 ^ i.toNat) x = (M.take j).foldl (fun acc i => acc ||| 2 ^ i.toNat) x ||| 2 ^ s := by
            rw [List.take_succ_eq_append_getElem hjt, List.foldl_append, hs]; rfl
          have hlt64 := mem_fold_lt (M.take j) (fun y hy => HR.out y (List.mem_of_mem_take hy)) x hx
          have hor := or_table ⟨_, hlt64⟩ ⟨s, hs6⟩
          simp only at hor
          rw [← hf] at hor
          have HF := hid hor; clear hor hf
          rw [hs] at hc2
          generalize (M.take j).foldl (fun acc i => acc ||| 2 ^ i.toNat) x = z at *
          have H1 := hid (l01One_any (s : Int) w2 (by omega) (by omega))
          go_wp2_with fail
          refine H1.out.mono ?_; rintro e w3 ⟨rfl, rfl⟩
          go_wp2_with fail
          go_round
          case rel => exact ⟨j + 1, by omega, by go_num, by rw [← HF.out]⟩
          case measure => simp [intOf]; omega
        · obtain rfl : j = M.length := by omega
          have hjt' : ¬ (M.length : Int) < M.length := by omega
          rw [List.take_length, HO.out]
          go_wp2_with fail
          go_roundw
          case rel => exact ⟨k + 1, by omega, by go_num, rfl, kw2.out⟩
          case measure => simp [intOf]; omega
    · obtain rfl : k = l.length := by omega
      have hlt' : ¬ (l.length : Int) < l.length := by omega
      rw [List.take_length]
      go_wp2_with fail
      refine (HM.out _).mono ?_; rintro e w2 ⟨v2, rfl, hv2, k2⟩
      go_wp2_with fail
      go_ret
      exact ⟨_, rfl, hv2.mono kw.size, kw.trans k2⟩
end Go.Proofs.YtpbbfoliabgkpaaGreat
/- Plain law: the text of a formula at each level of the grammar, and how a reader's contracts for all levels follow from those for its parts. -/
namespace Go.Proofs.YtpbbfoliabgkpaaGreat
open Fm
namespace Fm
/-- the level of the grammar at which the text of a formula stands -/
def lev : Fm → Nat
  | .imp _ b => if b.isFls then 3 else 0
  | .or _ _ => 1
  | .and _ _ => 2
  | _ => 3
/-- a text in parentheses, if they are needed -/
def par (b : Bool) (s : List UInt8) : List UInt8 := if b then 40 :: (s ++ [41]) else s
/-- the text of a formula without parentheses of its own -/
def body : Fm → List UInt8
  | .var v => [UInt8.ofNat (112 + v)]
  | .fls => [70]
  | .and a b => par (decide (a.lev < 2)) a.body ++ 38 :: par (decide (b.lev < 3)) b.body
  | .or a b => par (decide (a.lev < 1)) a.body ++ 124 :: par (decide (b.lev < 2)) b.body
  | .imp a b => if b.isFls then (if a.isFls then [84] else 126 :: par (decide (a.lev < 3)) a.body) else par (decide (a.lev < 1)) a.body ++ 62 :: b.body
  | .box a => 91 :: 93 :: par (decide (a.lev < 3)) a.body
  | .dia a => 60 :: 62 :: par (decide (a.lev < 3)) a.body
/-- the text of a formula at a level -/
def txt (t : Fm) (l : Nat) : List UInt8 := par (decide (t.lev < l)) t.body
theorem txt0 (t : Fm) : t.txt 0 = t.body := by simp [txt, par]
theorem lev_le (t : Fm) : t.lev ≤ 3 := by
  cases t <;> simp only [lev] <;> (try split) <;> omega
theorem txt_eq (t : Fm) (l m : Nat) (h : t.lev < l ↔ t.lev < m) : t.txt l = t.txt m := by
  unfold txt; rw [show decide (t.lev < l) = decide (t.lev < m) from decide_eq_decide.2 h]
def andHead : Fm → Fm
  | .and a _ => a.andHead
  | t => t
def andTail : Fm → List Fm
  | .and a b => a.andTail ++ [b]
  | _ => []
def orHead : Fm → Fm
  | .or a _ => a.orHead
  | t => t
def orTail : Fm → List Fm
  | .or a b => a.orTail ++ [b]
  | _ => []
/-- texts behind a byte each -/
def behind (c : UInt8) (l : Nat) : List Fm → List UInt8
  | [] => []
  | x :: xs => c :: (x.txt l ++ behind c l xs)
theorem behind_append (c : UInt8) (l : Nat) (xs ys : List Fm) : behind c l (xs ++ ys) = behind c l xs ++ behind c l ys := by
  induction xs with
  | nil => rfl
  | cons x xs ih => simp [behind, ih]
theorem and_fold (t : Fm) : t.andTail.foldl Fm.and t.andHead = t := by
  induction t with
  | and a b iha _ => simp [andTail, andHead, List.foldl_append, iha]
  | _ => rfl
theorem or_fold (t : Fm) : t.orTail.foldl Fm.or t.orHead = t := by
  induction t with
  | or a b iha _ => simp [orTail, orHead, List.foldl_append, iha]
  | _ => rfl
theorem and_txt (t : Fm) : t.txt 2 = t.andHead.txt 3 ++ behind 38 3 t.andTail := by
  induction t with
  | and a b iha _ =>
    have h : (Fm.and a b).txt 2 = a.txt 2 ++ 38 :: b.txt 3 := by simp [txt, body, par, lev]
    rw [h, iha]
    simp [andTail, andHead, behind_append, behind]
  | var v => simp [andTail, andHead, behind]; exact txt_eq _ _ _ (by simp [lev])
  | fls => simp [andTail, andHead, behind]; exact txt_eq _ _ _ (by simp [lev])
  | or a b _ _ => simp [andTail, andHead, behind]; exact txt_eq _ _ _ (by simp [lev])
  | imp a b _ _ => simp [andTail, andHead, behind]; exact txt_eq _ _ _ (by simp only [lev]; split <;> omega)
  | box a _ => simp [andTail, andHead, behind]; exact txt_eq _ _ _ (by simp [lev])
  | dia a _ => simp [andTail, andHead, behind]; exact txt_eq _ _ _ (by simp [lev])
theorem or_txt (t : Fm) : t.txt 1 = t.orHead.txt 2 ++ behind 124 2 t.orTail := by
  induction t with
  | or a b iha _ =>
    have h : (Fm.or a b).txt 1 = a.txt 1 ++ 124 :: b.txt 2 := by simp [txt, body, par, lev]
    rw [h, iha]
    simp [orTail, orHead, behind_append, behind]
  | var v => simp [orTail, orHead, behind]; exact txt_eq _ _ _ (by simp [lev])
  | fls => simp [orTail, orHead, behind]; exact txt_eq _ _ _ (by simp [lev])
  | and a b _ _ => simp [orTail, orHead, behind]; exact txt_eq _ _ _ (by simp [lev])
  | imp a b _ _ => simp [orTail, orHead, behind]; exact txt_eq _ _ _ (by simp only [lev]; split <;> omega)
  | box a _ => simp [orTail, orHead, behind]; exact txt_eq _ _ _ (by simp [lev])
  | dia a _ => simp [orTail, orHead, behind]; exact txt_eq _ _ _ (by simp [lev])
theorem and_parts (t : Fm) : (t.lev = 2 → ∀ x ∈ t.andHead :: t.andTail, x.enc.length < t.enc.length) ∧ (∀ x ∈ t.andHead :: t.andTail, x.enc.length ≤ t.enc.length) := by
  induction t with
  | and a b iha _ =>
    have h : ∀ x ∈ (Fm.and a b).andHead :: (Fm.and a b).andTail, x.enc.length < (Fm.and a b).enc.length := by
      intro x hx
      simp only [andHead, andTail, List.mem_cons, List.mem_append] at hx
      have := iha.2
      simp only [enc, List.length_cons, List.length_append]
      rcases hx with rfl | hx | rfl | hx
      · have := this _ (List.mem_cons_self ..); omega
      · have := this _ (List.mem_cons_of_mem _ hx); omega
      · omega
      · cases hx
    exact ⟨fun _ => h, fun x hx => Nat.le_of_lt (h x hx)⟩
  | imp a b _ _ => exact ⟨fun h => by simp only [lev] at h; split at h <;> omega, fun x hx => by simp [andHead, andTail] at hx; subst hx; exact Nat.le_refl _⟩
  | _ => exact ⟨fun h => by simp [lev] at h, fun x hx => by simp [andHead, andTail] at hx; subst hx; exact Nat.le_refl _⟩
theorem or_parts (t : Fm) : (t.lev = 1 → ∀ x ∈ t.orHead :: t.orTail, x.enc.length < t.enc.length) ∧ (∀ x ∈ t.orHead :: t.orTail, x.enc.length ≤ t.enc.length) := by
  induction t with
  | or a b iha _ =>
    have h : ∀ x ∈ (Fm.or a b).orHead :: (Fm.or a b).orTail, x.enc.length < (Fm.or a b).enc.length := by
      intro x hx
      simp only [orHead, orTail, List.mem_cons, List.mem_append] at hx
      have := iha.2
      simp only [enc, List.length_cons, List.length_append]
      rcases hx with rfl | hx | rfl | hx
      · have := this _ (List.mem_cons_self ..); omega
      · have := this _ (List.mem_cons_of_mem _ hx); omega
      · omega
      · cases hx
    exact ⟨fun _ => h, fun x hx => Nat.le_of_lt (h x hx)⟩
  | imp a b _ _ => exact ⟨fun h => by simp only [lev] at h; split at h <;> omega, fun x hx => by simp [orHead, orTail] at hx; subst hx; exact Nat.le_refl _⟩
  | _ => exact ⟨fun h => by simp [lev] at h, fun x hx => by simp [orHead, orTail] at hx; subst hx; exact Nat.le_refl _⟩
theorem and_wf (t : Fm) (h : t.wf) : ∀ x ∈ t.andHead :: t.andTail, x.wf := by
  induction t with
  | and a b iha _ =>
    intro x hx
    simp only [andHead, andTail, List.mem_cons, List.mem_append] at hx
    have := iha h.1
    rcases hx with rfl | hx | rfl | hx
    · exact this _ (List.mem_cons_self ..)
    · exact this _ (List.mem_cons_of_mem _ hx)
    · exact h.2
    · cases hx
  | _ => intro x hx; simp [andHead, andTail] at hx; subst hx; exact h
theorem or_wf (t : Fm) (h : t.wf) : ∀ x ∈ t.orHead :: t.orTail, x.wf := by
  induction t with
  | or a b iha _ =>
    intro x hx
    simp only [orHead, orTail, List.mem_cons, List.mem_append] at hx
    have := iha h.1
    rcases hx with rfl | hx | rfl | hx
    · exact this _ (List.mem_cons_self ..)
    · exact this _ (List.mem_cons_of_mem _ hx)
    · exact h.2
    · cases hx
  | _ => intro x hx; simp [orHead, orTail] at hx; subst hx; exact h
end Fm
/-- what a reader's contract says of a formula at a level, for a list of bytes: `R level t bytes` -/
theorem reads_all (R : Nat → Fm → List UInt8 → Prop)
    (h3 : ∀ t : Fm, t.wf → t.lev = 3 → (∀ x : Fm, x.wf → x.enc.length < t.enc.length → R 3 x (x.txt 3)) → R 3 t t.body)
    (hp : ∀ t : Fm, R 0 t t.body → R 3 t (40 :: (t.body ++ [41])))
    (h2 : ∀ x0 xs, R 3 x0 (x0.txt 3) → (∀ x ∈ xs, R 3 x (x.txt 3)) → R 2 (xs.foldl Fm.and x0) (x0.txt 3 ++ behind 38 3 xs))
    (h1 : ∀ x0 xs, R 2 x0 (x0.txt 2) → (∀ x ∈ xs, R 2 x (x.txt 2)) → R 1 (xs.foldl Fm.or x0) (x0.txt 2 ++ behind 124 2 xs))
    (h0 : ∀ t X, R 1 t X → R 0 t X)
    (hi : ∀ a b, R 1 a (a.txt 1) → R 0 b b.body → R 0 (Fm.imp a b) (a.txt 1 ++ 62 :: b.body)) :
    ∀ (n : Nat) (t : Fm), t.enc.length ≤ n → t.wf → R 0 t (t.txt 0) ∧ R 1 t (t.txt 1) ∧ R 2 t (t.txt 2) ∧ R 3 t (t.txt 3) := by
  intro n
  induction n with
  | zero => intro t h; have := t.enc_pos; omega
  | succ n ih =>
    intro t hn hw
    have sm : ∀ x : Fm, x.wf → x.enc.length < t.enc.length → R 0 x (x.txt 0) ∧ R 1 x (x.txt 1) ∧ R 2 x (x.txt 2) ∧ R 3 x (x.txt 3) := fun x hx hl => ih x (by omega) hx
    have s2 : (∀ x ∈ t.andHead :: t.andTail, R 3 x (x.txt 3)) → R 2 t (t.txt 2) := fun h => by
      have := h2 t.andHead t.andTail (h _ (List.mem_cons_self ..)) (fun x hx => h x (List.mem_cons_of_mem _ hx))
      rwa [and_fold, ← and_txt] at this
    have s1 : (∀ x ∈ t.orHead :: t.orTail, R 2 x (x.txt 2)) → R 1 t (t.txt 1) := fun h => by
      have := h1 t.orHead t.orTail (h _ (List.mem_cons_self ..)) (fun x hx => h x (List.mem_cons_of_mem _ hx))
      rwa [or_fold, ← or_txt] at this
    have hle := t.lev_le
    have up2 : t.lev ≠ 2 → R 3 t (t.txt 3) → R 2 t (t.txt 2) := fun hl h => by
      apply s2
      intro x hx
      have hx' : x = t := by
        cases t with
        | and a b => exact absurd rfl hl
        | _ => simp [andHead, andTail] at hx; exact hx
      subst hx'; exact h
    have up1 : t.lev ≠ 1 → R 2 t (t.txt 2) → R 1 t (t.txt 1) := fun hl h => by
      apply s1
      intro x hx
      have hx' : x = t := by
        cases t with
        | or a b => exact absurd rfl hl
        | _ => simp [orHead, orTail] at hx; exact hx
      subst hx'; exact h
    have up0 : t.lev ≠ 0 → R 1 t (t.txt 1) → R 0 t (t.txt 0) := fun hl h => by
      rw [txt_eq t 0 1 (by omega)]
      exact h0 _ _ h
    have dn : t.lev < 3 → R 0 t (t.txt 0) → R 3 t (t.txt 3) := fun hl h => by
      rw [txt0] at h
      have := hp t h
      unfold txt par
      rw [decide_eq_true hl]
      simpa using this
    by_cases e3 : t.lev = 3
    · have r3 : R 3 t (t.txt 3) := by
        have := h3 t hw e3 (fun x hx hl => (sm x hx hl).2.2.2)
        unfold txt par
        rw [decide_eq_false (by omega)]
        simpa using this
      have r2 := up2 (by omega) r3
      have r1 := up1 (by omega) r2
      exact ⟨up0 (by omega) r1, r1, r2, r3⟩
    by_cases e2 : t.lev = 2
    · have r2 := s2 (fun x hx => (sm x (t.and_wf hw x hx) (t.and_parts.1 e2 x hx)).2.2.2)
      have r1 := up1 (by omega) r2
      have r0 := up0 (by omega) r1
      exact ⟨r0, r1, r2, dn (by omega) r0⟩
    by_cases e1 : t.lev = 1
    · have r1 := s1 (fun x hx => (sm x (t.or_wf hw x hx) (t.or_parts.1 e1 x hx)).2.2.1)
      have r0 := up0 (by omega) r1
      have r3 := dn (by omega) r0
      exact ⟨r0, r1, up2 (by omega) r3, r3⟩
    · have r0 : R 0 t (t.txt 0) := by
        have hz : t.lev = 0 := by omega
        cases t with
        | imp a b =>
          have hb : b.isFls = false := by
            simp only [lev] at hz; split at hz
            · omega
            · simpa using ‹¬ b.isFls = true›
          have ra := (sm a hw.1 (by simp only [enc, List.length_cons, List.length_append]; omega)).2.1
          have rb := (sm b hw.2 (by simp only [enc, List.length_cons, List.length_append]; omega)).1
          rw [txt0] at rb
          have := hi a b ra rb
          rw [txt0]
          simp only [body, hb]
          simpa [txt] using this
        | _ => simp [lev] at hz
      have r3 := dn (by omega) r0
      have r2 := up2 (by omega) r3
      exact ⟨r0, up1 (by omega) r2, r2, r3⟩
end Go.Proofs.YtpbbfoliabgkpaaGreat
/- What the contract of a reader says: a box that holds a text, a place in it and a mark. -/
namespace Go.Proofs.YtpbbfoliabgkpaaGreat
open Go.RowKit

/-- the bytes of a text -/
def bts (s : ByteArray) : List UInt8 := s.data.toList
/-- a reader stands at a place of a text -/
structure RdAt (w : World) (r : Nat) (s : ByteArray) (i : Nat) (bad : Bool) : Prop where
  c0 : w.cell? ⟨r, 0, none⟩ = some (.string s)
  c1 : w.cell? ⟨r, 1, none⟩ = some (.int .i64 i)
  c2 : w.cell? ⟨r, 2, none⟩ = some (.bool bad)
  f1 : w.frozen? ⟨r, 1, none⟩ = false
  f2 : w.frozen? ⟨r, 2, none⟩ = false
  le : i ≤ s.size
  sz : s.size ≤ 2147483648
theorem RdAt.lt {w : World} {r : Nat} {s : ByteArray} {i : Nat} {bad : Bool} (h : RdAt w r s i bad) : r < w.heap.size := World.block_lt_of_cell? _ _ h.c0
theorem RdAt.keeps {w w' : World} {r : Nat} {s : ByteArray} {i : Nat} {bad : Bool} (h : RdAt w r s i bad) (k : Keeps w w') : RdAt w' r s i bad := by
  have hl := h.lt
  obtain ⟨kc, kf⟩ := k.both
  exact ⟨k.cell h.c0, k.cell h.c1, k.cell h.c2, (kf _ _ hl).trans h.f1, (kf _ _ hl).trans h.f2, h.le, h.sz⟩
/-- what may follow a text that is read at a level -/
def stops (l : Nat) (r : List UInt8) : Prop := (l ≤ 2 → r.head? ≠ some 38) ∧ (l ≤ 1 → r.head? ≠ some 124) ∧ (l = 0 → r.head? ≠ some 62)
theorem stops.up {l m : Nat} {r : List UInt8} (h : stops l r) (k : l ≤ m) : stops m r := ⟨fun e => h.1 (by omega), fun e => h.2.1 (by omega), fun e => h.2.2 (by omega)⟩
theorem stops3 (r : List UInt8) : stops 3 r := ⟨fun e => by omega, fun e => by omega, fun e => by omega⟩
/-- a formula has been read up to a place -/
def RetRd (w : World) (r : Nat) (s : ByteArray) (j : Nat) (a : List Nd) (e : Ending) (w' : World) : Prop :=
  ∃ v, e = .returned v ∧ OwnN w' w.heap.size v a ∧ RdAt w' r s j false ∧ w.grownBy w' (some r)
/-- a function reads a formula where its text at a level begins -/
def Reads (f : FuncId) (l : Nat) (t : Fm) (X : List UInt8) : Prop :=
  ∀ (w : World) (r : Nat) (s : ByteArray) (i : Nat) (rest : List UInt8), RdAt w r s i false → (bts s).drop i = X ++ rest → stops l rest → t.enc.length ≤ 100000000 →
    Calls Tryz.prog f #[.pointer (some ⟨r, 0, none⟩)] w (RetRd w r s (i + X.length) t.enc)
/-- the next byte of a text -/
theorem bts_head {s : ByteArray} {i : Nat} {b : UInt8} {l : List UInt8} (h : (bts s).drop i = b :: l) : ∃ hi : i < s.size, s[i] = b ∧ (bts s).drop (i + 1) = l := by
  have hl : i < (bts s).length := by
    rcases Nat.lt_or_ge i (bts s).length with h' | h'
    · exact h'
    · rw [List.drop_eq_nil_of_le h'] at h; cases h
  have hs : (bts s).length = s.size := by show s.data.toList.length = s.data.size; simp
  rw [List.drop_eq_getElem_cons hl] at h
  injection h with h1 h2
  exact ⟨by omega, by rw [← h1]; simp [bts]; rfl, h2⟩
theorem bts_end {s : ByteArray} {i : Nat} (hi : i ≤ s.size) (h : (bts s).drop i = []) : i = s.size := by
  have hs : (bts s).length = s.size := by show s.data.toList.length = s.data.size; simp
  have := List.drop_eq_nil_iff.1 h
  omega
theorem drop_more {s : ByteArray} {i : Nat} {X Y : List UInt8} (h : (bts s).drop i = X ++ Y) : (bts s).drop (i + X.length) = Y := by
  rw [← List.drop_drop, h, List.drop_left]
theorem fold_and_len (ys : List Fm) : ∀ a : Fm, a.enc.length ≤ (ys.foldl Fm.and a).enc.length := by
  induction ys with
  | nil => intro a; exact Nat.le_refl _
  | cons y ys ih => intro a; have := ih (Fm.and a y); simp only [List.foldl_cons, Fm.enc, List.length_cons, List.length_append] at *; omega
theorem fold_or_len (ys : List Fm) : ∀ a : Fm, a.enc.length ≤ (ys.foldl Fm.or a).enc.length := by
  induction ys with
  | nil => intro a; exact Nat.le_refl _
  | cons y ys ih => intro a; have := ih (Fm.or a y); simp only [List.foldl_cons, Fm.enc, List.length_cons, List.length_append] at *; omega
theorem OwnN.grown {w w' : World} {B r : Nat} {v : Value} {x : List Nd} (h : OwnN w B v x) (k : w.grownBy w' (some r)) (hr : r < B) : OwnN w' B v x := by
  refine ⟨h.1, ?_⟩
  rcases h.2 with hn | ⟨g, cap, cur, rfl, hb, hgg, rest⟩
  · exact .inl hn
  · exact .inr ⟨g, cap, cur, rfl, hb, (k.block g (Array.getElem?_eq_some_iff.1 hgg).1 (fun e => by cases e; omega)).trans hgg, rest⟩
theorem grown_keeps {w w1 w2 : World} {row : Option Nat} (h : w.grownBy w1 row) (k : Keeps w1 w2) : w.grownBy w2 row :=
  ⟨k.os.trans h.os, k.tape.trans h.tape, k.output.trans h.output, Nat.le_trans h.size k.size, fun i hi hr => (k.block (Nat.lt_of_lt_of_le hi h.size)).trans (h.block i hi hr)⟩
end Go.Proofs.YtpbbfoliabgkpaaGreat
/- Walks: the readers' first steps, and truth and variables, on both sides. -/
namespace Go.Proofs.YtpbbfoliabgkpaaGreat
open Go.RowKit

theorem grown_pre0 {w w1 w2 : World} {row : Option Nat} (h : Keeps w w1) (k : w1.grownBy w2 row) : w.grownBy w2 row :=
  ⟨k.os.trans h.os, k.tape.trans h.tape, k.output.trans h.output, Nat.le_trans h.size k.size, fun i hi hr => (k.block i (Nat.lt_of_lt_of_le hi h.size) hr).trans (h.block hi)⟩
/-- a byte is taken -/
def RetHit (w : World) (r : Nat) (s : ByteArray) (i : Nat) (e : Ending) (w' : World) : Prop :=
  e = .returned (.bool true) ∧ RdAt w' r s (i + 1) false ∧ w.grownBy w' (some r)
/-- a byte is not taken -/
def RetMiss (w : World) (r : Nat) (s : ByteArray) (i : Nat) (e : Ending) (w' : World) : Prop :=
  e = .returned (.bool false) ∧ RdAt w' r s i false ∧ Keeps w w'
theorem RdAt.moved {w : World} {r : Nat} {s : ByteArray} {i : Nat} (h : RdAt w r s i false) (hi : i < s.size) : RdAt (w.setCell ⟨r, 1, none⟩ (.int .i64 ((i : Int) + 1))) r s (i + 1) false := by
  refine ⟨?_, ?_, ?_, ?_, ?_, hi, h.sz⟩
  · exact (World.cell?_setCell_other (a := ⟨r, 1, none⟩) (b := ⟨r, 0, none⟩) (h := by simp) ..).trans h.c0
  · exact World.cell?_setCell_same (h := h.c1) ..
  · exact (World.cell?_setCell_other (a := ⟨r, 1, none⟩) (b := ⟨r, 2, none⟩) (h := by simp) ..).trans h.c2
  · rw [World.frozen?_setCell]; exact h.f1
  · rw [World.frozen?_setCell]; exact h.f2
--
set_option maxRecDepth 20000 in
set_option maxHeartbeats 1000000 in
theorem l02Take_hit {w : World} {r : Nat} {s : ByteArray} {i : Nat} {b : UInt8} {l : List UInt8} {k : Int} (h : RdAt w r s i false) (hd : (bts s).drop i = b :: l) (hk : k = (b.toNat : Int)) :
    Calls Tryz.prog 288 #[.pointer (some ⟨r, 0, none⟩), .int .u8 k] w (RetHit w r s i) := by
  subst hk
  obtain ⟨hi, hb, _⟩ := bts_head hd
  have hm := fun n => (h.keeps ((Keeps.refl w).drewN n)).moved hi
  obtain ⟨c0, c1, c2, f1, f2, le, sz⟩ := h
  have hlt : decide ((i : Int) < s.size) = true := by simp; omega
  have hge : decide ((i : Int) ≥ s.size) = false := by simp; omega
  have hbb : s[i].toNat = b.toNat := by rw [hb]
  clear hd
  go_enter Tryz.func288, Tryz.ntmps288
  go_wp2_with fail
  go_quiet (fail)
  go_wp2_with fail
  go_ret
  exact ⟨rfl, hm _, grown_pre0 ((Keeps.refl w).drewN _) (grown_set _ _ _)⟩
set_option maxRecDepth 20000 in
set_option maxHeartbeats 1000000 in
theorem l02Take_miss {w : World} {r : Nat} {s : ByteArray} {i : Nat} {l : List UInt8} {k : Int} (b : UInt8) (h : RdAt w r s i false) (hd : (bts s).drop i = l) (hne : l.head? ≠ some b) (hk : k = (b.toNat : Int)) :
    Calls Tryz.prog 288 #[.pointer (some ⟨r, 0, none⟩), .int .u8 k] w (RetMiss w r s i) := by
  subst hk
  have hm := fun n => h.keeps ((Keeps.refl w).drewN n)
  cases l with
  | nil =>
    have hi := bts_end h.le hd
    obtain ⟨c0, c1, c2, f1, f2, le, sz⟩ := h
    have hlt : decide ((i : Int) < s.size) = false := by simp; omega
    have hge : decide ((i : Int) ≥ s.size) = true := by simp; omega
    clear hd hne
    go_enter Tryz.func288, Tryz.ntmps288
    go_wp2_with fail
    go_quiet (fail)
    go_wp2_with fail
    go_ret
    exact ⟨rfl, hm _, (Keeps.refl w).drewN _⟩
  | cons c l =>
    obtain ⟨hi, hb, _⟩ := bts_head hd
    obtain ⟨c0, c1, c2, f1, f2, le, sz⟩ := h
    have hlt : decide ((i : Int) < s.size) = true := by simp; omega
    have hge : decide ((i : Int) ≥ s.size) = false := by simp; omega
    have hb1 : ((c.toNat : Int) == (b.toNat : Int)) = false := by simp only [beq_eq_false_iff_ne, ne_eq]; intro e; apply hne; simp [UInt8.toNat_inj.1 (Int.ofNat_inj.1 e)]
    have hb2 : ((c.toNat : Int) != (b.toNat : Int)) = true := by simp [bne, hb1]
    clear hd hne
    go_enter Tryz.func288, Tryz.ntmps288
    go_wp2_with fail
    go_quiet (fail)
    go_wp2_with fail
    go_ret
    exact ⟨rfl, hm _, (Keeps.refl w).drewN _⟩
--
set_option maxRecDepth 20000 in
set_option maxHeartbeats 1000000 in
theorem take_hit {w : World} {r : Nat} {s : ByteArray} {i : Nat} {b : UInt8} {l : List UInt8} {k : Int} (h : RdAt w r s i false) (hd : (bts s).drop i = b :: l) (hk : k = (b.toNat : Int)) :
    Calls Tryz.prog 273 #[.pointer (some ⟨r, 0, none⟩), .int .u8 k] w (RetHit w r s i) := by
  subst hk
  obtain ⟨hi, hb, _⟩ := bts_head hd
  have hm := fun n => (h.keeps ((Keeps.refl w).drewN n)).moved hi
  obtain ⟨c0, c1, c2, f1, f2, le, sz⟩ := h
  have hlt : decide ((i : Int) < s.size) = true := by simp; omega
  have hge : decide ((i : Int) ≥ s.size) = false := by simp; omega
  have hbb : s[i].toNat = b.toNat := by rw [hb]
  clear hd
  go_enter Tryz.func273, Tryz.ntmps273
  go_wp2_with fail
  go_quiet (fail)
  go_wp2_with fail
  go_ret
  exact ⟨rfl, hm _, grown_pre0 ((Keeps.refl w).drewN _) (grown_set _ _ _)⟩
set_option maxRecDepth 20000 in
set_option maxHeartbeats 1000000 in
theorem take_miss {w : World} {r : Nat} {s : ByteArray} {i : Nat} {l : List UInt8} {k : Int} (b : UInt8) (h : RdAt w r s i false) (hd : (bts s).drop i = l) (hne : l.head? ≠ some b) (hk : k = (b.toNat : Int)) :
    Calls Tryz.prog 273 #[.pointer (some ⟨r, 0, none⟩), .int .u8 k] w (RetMiss w r s i) := by
  subst hk
  have hm := fun n => h.keeps ((Keeps.refl w).drewN n)
  cases l with
  | nil =>
    have hi := bts_end h.le hd
    obtain ⟨c0, c1, c2, f1, f2, le, sz⟩ := h
    have hlt : decide ((i : Int) < s.size) = false := by simp; omega
    have hge : decide ((i : Int) ≥ s.size) = true := by simp; omega
    clear hd hne
    go_enter Tryz.func273, Tryz.ntmps273
    go_wp2_with fail
    go_quiet (fail)
    go_wp2_with fail
    go_ret
    exact ⟨rfl, hm _, (Keeps.refl w).drewN _⟩
  | cons c l =>
    obtain ⟨hi, hb, _⟩ := bts_head hd
    obtain ⟨c0, c1, c2, f1, f2, le, sz⟩ := h
    have hlt : decide ((i : Int) < s.size) = true := by simp; omega
    have hge : decide ((i : Int) ≥ s.size) = false := by simp; omega
    have hb1 : ((c.toNat : Int) == (b.toNat : Int)) = false := by simp only [beq_eq_false_iff_ne, ne_eq]; intro e; apply hne; simp [UInt8.toNat_inj.1 (Int.ofNat_inj.1 e)]
    have hb2 : ((c.toNat : Int) != (b.toNat : Int)) = true := by simp [bne, hb1]
    clear hd hne
    go_enter Tryz.func273, Tryz.ntmps273
    go_wp2_with fail
    go_quiet (fail)
    go_wp2_with fail
    go_ret
    exact ⟨rfl, hm _, (Keeps.refl w).drewN _⟩
end Go.Proofs.YtpbbfoliabgkpaaGreat
