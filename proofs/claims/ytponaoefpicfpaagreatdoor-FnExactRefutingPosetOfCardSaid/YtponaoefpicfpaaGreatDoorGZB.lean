/- Plain mathematics: the first of all substitutions by candidates for which a condition holds; counting them. No program in sight. -/
import Derived.Test.YtponaoefpicfpaaGreatDoorGBase
import Derived.Test.YtponaoefpicfpaaGreatDoorGP3
namespace Go.Proofs.YtponaoefpicfpaaGreatDoor
section
variable {β : Type}
/-- the first substitution by candidates for which P answers yes; the first variable turns slowest -/
def firstC (P : List β → Bool) (cs : List β) : List Int → List β → Option (List β)
  | [], ims => if P ims then some ims else none
  | v :: vs, ims => cs.findSome? fun c => firstC P cs vs (ims.set v.toNat c)
/-- alike but at some variables -/
def Agree (vs : List Int) (a b : List β) : Prop := a.length = b.length ∧ ∀ i : Nat, (i : Int) ∉ vs → a[i]? = b[i]?
theorem Agree.refl (vs : List Int) (a : List β) : Agree vs a a := ⟨rfl, fun _ _ => rfl⟩
theorem Agree.trans {vs : List Int} {a b c : List β} (h : Agree vs a b) (k : Agree vs b c) : Agree vs a c := ⟨h.1.trans k.1, fun i hi => (h.2 i hi).trans (k.2 i hi)⟩
theorem Agree.symm {vs : List Int} {a b : List β} (h : Agree vs a b) : Agree vs b a := ⟨h.1.symm, fun i hi => (h.2 i hi).symm⟩
theorem Agree.nil {a b : List β} (h : Agree [] a b) : a = b := List.ext_getElem? fun i => h.2 i (by simp)
theorem Agree.mono {vs us : List Int} {a b : List β} (h : Agree vs a b) (hs : ∀ x ∈ vs, x ∈ us) : Agree us a b := ⟨h.1, fun i hi => h.2 i (fun e => hi (hs _ e))⟩
theorem Agree.set {v : Int} {vs : List Int} {a b : List β} (h : Agree (v :: vs) a b) (c : β) (hv : 0 ≤ v) : Agree vs (a.set v.toNat c) (b.set v.toNat c) :=
  ⟨by simp [h.1], fun i hi => by
    by_cases e : v.toNat = i
    · subst e
      by_cases hl : v.toNat < a.length
      · rw [List.getElem?_set_self hl, List.getElem?_set_self (by rw [← h.1]; exact hl)]
      · rw [List.getElem?_eq_none (by simp; omega), List.getElem?_eq_none (by have := h.1; simp; omega)]
    · rw [List.getElem?_set_ne e, List.getElem?_set_ne e]
      refine h.2 i (fun hm => ?_)
      rcases List.mem_cons.1 hm with h1 | h1
      · omega
      · exact hi h1⟩
theorem Agree.setL {v : Int} {vs : List Int} (a : List β) (c : β) (hv : 0 ≤ v) : Agree (v :: vs) (a.set v.toNat c) a :=
  ⟨by simp, fun i hi => by
    have : v.toNat ≠ i := fun e => hi (by rw [← e]; simp; omega)
    rw [List.getElem?_set_ne this]⟩
theorem findSome_congr {α γ : Type} {f g : α → Option γ} : ∀ (l : List α), (∀ x ∈ l, f x = g x) → l.findSome? f = l.findSome? g
  | [], _ => rfl
  | x :: l, h => by
    rw [List.findSome?_cons, List.findSome?_cons, h x (by simp), findSome_congr l (fun y hy => h y (by simp [hy]))]
theorem firstC_agree (P : List β → Bool) (cs : List β) : ∀ (vs : List Int), (∀ v ∈ vs, 0 ≤ v) → ∀ a b, Agree vs a b → firstC P cs vs a = firstC P cs vs b
  | [], _, a, b, h => by rw [h.nil]
  | v :: vs, hp, a, b, h => findSome_congr cs fun c _ => firstC_agree P cs vs (fun x hx => hp x (by simp [hx])) _ _ (h.set c (hp v (by simp)))
theorem firstC_at (P : List β → Bool) (cs : List β) (v : Int) (vs : List Int) (a r : List β) : ∀ (j : Nat) (hj : j < cs.length), (∀ t (ht : t < cs.length), t < j → firstC P cs vs (a.set v.toNat cs[t]) = none) → firstC P cs vs (a.set v.toNat cs[j]) = some r → firstC P cs (v :: vs) a = some r := by
  have gen : ∀ (l : List β) (f : β → Option (List β)) (j : Nat) (hj : j < l.length), (∀ t (ht : t < l.length), t < j → f l[t] = none) → f l[j] = some r → l.findSome? f = some r := by
    intro l f
    induction l with
    | nil => intro j hj; simp at hj
    | cons y l ih =>
      intro j hj h1 h2
      cases j with
      | zero => rw [List.findSome?_cons]; simp only [List.getElem_cons_zero] at h2; rw [h2]
      | succ j =>
        have h0 := h1 0 (by simp) (by omega)
        simp only [List.getElem_cons_zero] at h0
        rw [List.findSome?_cons, h0]
        exact ih j (by simpa using hj) (fun t ht htj => by
          have h3 := h1 (t + 1) (by simpa using ht) (by omega)
          simp only [List.getElem_cons_succ] at h3; exact h3) (by simp only [List.getElem_cons_succ] at h2; exact h2)
  intro j hj h1 h2
  exact gen cs _ j hj h1 h2
theorem firstC_end (P : List β → Bool) (cs : List β) (v : Int) (vs : List Int) (a : List β) (h : ∀ t (ht : t < cs.length), firstC P cs vs (a.set v.toNat cs[t]) = none) : firstC P cs (v :: vs) a = none := by
  unfold firstC
  rw [List.findSome?_eq_none_iff]
  intro c hc
  obtain ⟨t, ht, rfl⟩ := List.getElem_of_mem hc
  exact h t ht
/-- what is found agrees with what was there outside the variables -/
theorem firstC_out (P : List β → Bool) (cs : List β) : ∀ (vs : List Int), (∀ v ∈ vs, 0 ≤ v) → ∀ a r, firstC P cs vs a = some r → Agree vs r a ∧ P r = true
  | [], _, a, r, h => by
    unfold firstC at h
    split at h
    · cases h; exact ⟨Agree.refl _ _, by assumption⟩
    · cases h
  | v :: vs, hp, a, r, h => by
    obtain ⟨c, _, h1⟩ := List.exists_of_findSome?_eq_some h
    obtain ⟨h2, h3⟩ := firstC_out P cs vs (fun x hx => hp x (by simp [hx])) _ _ h1
    exact ⟨(h2.mono (fun x hx => by simp [hx])).trans (Agree.setL a c (hp v (by simp))), h3⟩
/-- all of what is found comes from what was there and from the candidates -/
theorem firstC_mem (P : List β → Bool) (cs : List β) : ∀ (vs : List Int) a r, firstC P cs vs a = some r → ∀ x ∈ r, x ∈ a ∨ x ∈ cs
  | [], a, r, h => by
    unfold firstC at h
    split at h
    · cases h; exact fun x hx => .inl hx
    · cases h
  | v :: vs, a, r, h => by
    obtain ⟨c, hc, h1⟩ := List.exists_of_findSome?_eq_some h
    intro x hx
    rcases firstC_mem P cs vs _ _ h1 x hx with h2 | h2
    · rcases List.mem_or_eq_of_mem_set h2 with h3 | h3
      · exact .inl h3
      · exact .inr (h3 ▸ hc)
    · exact .inr h2
/-- the substitution with a number; the variables stand in reverse -/
def pickC (cs : List β) : List Int → Nat → List β → List β
  | [], _, ims => ims
  | v :: vs, n, ims => match cs[n % cs.length]? with
    | none => ims
    | some c => pickC cs vs (n / cs.length) (ims.set v.toNat c)
theorem set_comm {l : List β} {i j : Nat} (h : i ≠ j) (x y : β) : (l.set i x).set j y = (l.set j y).set i x := List.set_comm x y h
theorem pickC_set (cs : List β) (v : Int) (c : β) : ∀ (vs : List Int), (∀ x ∈ vs, x.toNat ≠ v.toNat) → ∀ n ims, pickC cs vs n (ims.set v.toNat c) = (pickC cs vs n ims).set v.toNat c
  | [], _, n, ims => rfl
  | u :: vs, h, n, ims => by
    simp only [pickC]
    cases cs[n % cs.length]? with
    | none => rfl
    | some d =>
      simp only []
      rw [set_comm (h u (by simp)).symm, pickC_set cs v c vs (fun x hx => h x (by simp [hx]))]
theorem pickC_snoc (cs : List β) (hc : 0 < cs.length) (v : Int) : ∀ (vs : List Int) n ims, pickC cs (vs ++ [v]) n ims = (pickC cs vs n ims).set v.toNat (cs[(n / cs.length ^ vs.length) % cs.length]'(Nat.mod_lt _ hc))
  | [], n, ims => by
    have h1 : n % cs.length < cs.length := Nat.mod_lt _ hc
    simp [pickC, h1]
  | u :: vs, n, ims => by
    have h1 : n % cs.length < cs.length := Nat.mod_lt _ hc
    simp only [List.cons_append, pickC, List.getElem?_eq_getElem h1]
    rw [pickC_snoc cs hc v vs]
    congr 2
    rw [Nat.div_div_eq_div_mul, List.length_cons, Nat.pow_succ, Nat.mul_comm]
theorem pickC_mod (cs : List β) (hc : 0 < cs.length) : ∀ (vs : List Int) (k n : Nat) ims, vs.length ≤ k → pickC cs vs (n % cs.length ^ k) ims = pickC cs vs n ims
  | [], k, n, ims, _ => rfl
  | u :: vs, 0, n, ims, h => by simp at h
  | u :: vs, k + 1, n, ims, h => by
    have h1 : n % cs.length < cs.length := Nat.mod_lt _ hc
    have e1 : n % cs.length ^ (k + 1) % cs.length = n % cs.length := Nat.mod_mod_of_dvd n ⟨cs.length ^ k, by rw [Nat.pow_succ, Nat.mul_comm]⟩
    have e2 : n % cs.length ^ (k + 1) / cs.length = (n / cs.length) % cs.length ^ k := by
      rw [Nat.pow_succ, Nat.mul_comm, Nat.mod_mul_right_div_self]
    simp only [pickC, e1, e2, List.getElem?_eq_getElem h1]
    exact pickC_mod cs hc vs k _ _ (by simpa using h)
theorem findSome_range_mul {γ : Type} (f : Nat → Option γ) (K : Nat) : ∀ n, (List.range (n * K)).findSome? f = (List.range n).findSome? fun q => (List.range K).findSome? fun r => f (q * K + r)
  | 0 => by simp
  | n + 1 => by
    rw [List.range_succ, List.findSome?_append, ← findSome_range_mul f K n, Nat.succ_mul, List.range_add, List.findSome?_append, List.findSome?_map]
    congr 1
    simp only [List.findSome?_cons, List.findSome?_nil]
    have : (f ∘ fun x => n * K + x) = fun r => f (n * K + r) := rfl
    rw [this]
    cases (List.range K).findSome? (fun r => f (n * K + r)) <;> rfl
theorem findSome_range_get {γ : Type} (g : β → Option γ) : ∀ (cs : List β), (List.range cs.length).findSome? (fun q => (cs[q]?).bind g) = cs.findSome? g := by
  intro cs
  induction cs with
  | nil => rfl
  | cons c cs ih =>
    rw [List.length_cons, List.range_succ_eq_map, List.findSome?_cons, List.findSome?_cons, List.findSome?_map, ← ih]
    rfl
/-- a test of one substitution -/
def testC (P : List β → Bool) (ims : List β) : Option (List β) := if P ims then some ims else none
/-- all numbers in order find the same -/
theorem firstC_pick (P : List β → Bool) (cs : List β) (hc : 0 < cs.length) : ∀ (vs : List Int), (vs.map Int.toNat).Nodup → ∀ ims,
    firstC P cs vs ims = (List.range (cs.length ^ vs.length)).findSome? fun n => testC P (pickC cs vs.reverse n ims)
  | [], _, ims => by simp [firstC, testC, pickC, List.range_succ]
  | v :: vs, hn, ims => by
    have hn' : v.toNat ∉ vs.map Int.toNat ∧ (vs.map Int.toNat).Nodup := by simpa using hn
    have hne : ∀ x ∈ vs.reverse, x.toNat ≠ v.toNat := fun x hx e => hn'.1 (List.mem_map.2 ⟨x, by simpa using hx, e⟩)
    rw [List.length_cons, Nat.pow_succ, Nat.mul_comm, findSome_range_mul, firstC, ← findSome_range_get]
    refine findSome_congr _ fun q hq => ?_
    have hq' : q < cs.length := List.mem_range.1 hq
    rw [List.getElem?_eq_getElem hq', Option.bind_some, firstC_pick P cs hc vs hn'.2]
    refine findSome_congr _ fun r hr => ?_
    have hr' : r < cs.length ^ vs.length := List.mem_range.1 hr
    have hK : 0 < cs.length ^ vs.length := Nat.pow_pos hc
    rw [List.reverse_cons, pickC_snoc cs hc v, pickC_set cs v _ _ hne]
    have e1 : (q * cs.length ^ vs.length + r) / cs.length ^ vs.reverse.length % cs.length = q := by
      rw [List.length_reverse, Nat.mul_comm, Nat.mul_add_div hK, Nat.div_eq_of_lt hr', Nat.add_zero, Nat.mod_eq_of_lt hq']
    have e2 : pickC cs vs.reverse (q * cs.length ^ vs.length + r) ims = pickC cs vs.reverse r ims := by
      rw [← pickC_mod cs hc vs.reverse vs.length (q * cs.length ^ vs.length + r) ims (by simp), Nat.mul_comm, Nat.mul_add_mod, Nat.mod_eq_of_lt hr']
    simp only [e1, e2]
/-- no candidate, but a variable: nothing is found -/
theorem firstC_none (P : List β → Bool) (vs : List Int) (hv : 0 < vs.length) (ims : List β) : firstC P [] vs ims = none := by
  cases vs with
  | nil => simp at hv
  | cons v vs => rfl
theorem findSome_range_at {γ : Type} (f : Nat → Option γ) (r : γ) : ∀ (N k : Nat), k < N → (∀ j, j < k → f j = none) → f k = some r → (List.range N).findSome? f = some r
  | 0, k, h, _, _ => by omega
  | N + 1, k, h, hn, hf => by
    rw [List.range_succ, List.findSome?_append]
    by_cases e : k < N
    · rw [findSome_range_at f r N k e hn hf]; rfl
    · obtain rfl : k = N := by omega
      have : (List.range k).findSome? f = none := by
        rw [List.findSome?_eq_none_iff]; intro j hj; exact hn j (by simpa using hj)
      rw [this, List.findSome?_cons, hf]; rfl
theorem pow_posC {m n : Nat} {k : Nat} (h : k < m ^ n) : n = 0 ∨ 0 < m := by
  rcases Nat.eq_zero_or_pos n with e | e
  · exact .inl e
  · rcases Nat.eq_zero_or_pos m with e2 | e2
    · subst e2
      rw [Nat.zero_pow e] at h; omega
    · exact .inr e2
theorem firstC_found (P : List β → Bool) (cs : List β) (vs : List Int) (hd : (vs.map Int.toNat).Nodup) (ims : List β) (k : Nat) (hk : k < cs.length ^ vs.length)
    (hn : ∀ j, j < k → testC P (pickC cs vs.reverse j ims) = none) (h : P (pickC cs vs.reverse k ims) = true) : firstC P cs vs ims = some (pickC cs vs.reverse k ims) := by
  have hf : testC P (pickC cs vs.reverse k ims) = some (pickC cs vs.reverse k ims) := by unfold testC; rw [if_pos h]
  rcases pow_posC hk with e | e
  · obtain rfl := List.eq_nil_of_length_eq_zero e
    have hp : P ims = true := h
    simp [firstC, pickC, hp]
  · rw [firstC_pick P cs e vs hd]
    exact findSome_range_at _ _ _ k hk hn hf
theorem firstC_lost (P : List β → Bool) (cs : List β) (vs : List Int) (hd : (vs.map Int.toNat).Nodup) (ims : List β)
    (hn : ∀ j, j < cs.length ^ vs.length → testC P (pickC cs vs.reverse j ims) = none) : firstC P cs vs ims = none := by
  rcases Nat.eq_zero_or_pos vs.length with e | e
  · obtain rfl := List.eq_nil_of_length_eq_zero e
    have := hn 0 (by simp)
    unfold testC at this
    simp only [List.reverse_nil, pickC] at this
    unfold firstC
    exact this
  · rcases Nat.eq_zero_or_pos cs.length with e2 | e2
    · obtain rfl := List.eq_nil_of_length_eq_zero e2
      exact firstC_none P vs e ims
    · rw [firstC_pick P cs e2 vs hd, List.findSome?_eq_none_iff]
      intro j hj
      exact hn j (by simpa using hj)
theorem testC_none {P : List β → Bool} {ims : List β} : testC P ims = none ↔ P ims = false := by
  unfold testC
  cases P ims <;> simp
theorem pickC_mem (cs : List β) : ∀ (vs : List Int) n a, ∀ x ∈ pickC cs vs n a, x ∈ a ∨ x ∈ cs
  | [], _, a => fun x hx => .inl hx
  | v :: vs, n, a => by
    intro x hx
    simp only [pickC] at hx
    cases hg : cs[n % cs.length]? with
    | none => rw [hg] at hx; exact .inl hx
    | some c =>
      rw [hg] at hx
      rcases pickC_mem cs vs _ _ x hx with h2 | h2
      · rcases List.mem_or_eq_of_mem_set h2 with h3 | h3
        · exact .inl h3
        · exact .inr (h3 ▸ List.mem_of_getElem? hg)
      · exact .inr h2
theorem pickC_len (cs : List β) : ∀ (vs : List Int) n a, (pickC cs vs n a).length = a.length
  | [], _, _ => rfl
  | v :: vs, n, a => by
    simp only [pickC]
    cases cs[n % cs.length]? with
    | none => rfl
    | some c => simp [pickC_len cs vs]
end
/-- how many substitutions there are, but at most 601 -/
def cap601 (m : Nat) : Nat → Nat
  | 0 => 1
  | k + 1 => min (cap601 m k * m) 601
theorem cap601_eq (m : Nat) : ∀ k, cap601 m k = min (m ^ k) 601
  | 0 => by simp [cap601]
  | k + 1 => by
    have h := cap601_eq m k
    rw [cap601, h, Nat.pow_succ]
    by_cases h1 : m ^ k ≤ 601
    · rw [Nat.min_eq_left h1]
    · have h2 : 601 ≤ m ^ k := by omega
      rw [Nat.min_eq_right h2]
      rcases Nat.eq_zero_or_pos m with h0 | h0
      · subst h0; simp
      · have h3 : m ^ k ≤ m ^ k * m := Nat.le_mul_of_pos_right _ h0
        have h4 : 601 ≤ 601 * m := Nat.le_mul_of_pos_right _ h0
        omega
end Go.Proofs.YtponaoefpicfpaaGreatDoor
/- Walks: the variables of lists of formulas, on both sides. -/
namespace Go.Proofs.YtponaoefpicfpaaGreatDoor
open Go.RowKit
/-- the mask of the variables of formulas -/
def vmL (l : List (List Nd)) : Nat := l.foldl (fun m a => m ||| vm a) 0
theorem vmL_take (l : List (List Nd)) (k : Nat) (h : k < l.length) : vmL (l.take (k + 1)) = vmL (l.take k) ||| vm l[k] := by
  unfold vmL; rw [List.take_succ_eq_append_getElem h, List.foldl_append]; rfl
theorem vm_64 {a : List Nd} (h : a.all okNd = true) : vm a < 64 := by
  have := vm_lt h a.length (Nat.le_refl _)
  rwa [List.take_length] at this
theorem vmL_lt {l : List (List Nd)} (h : ∀ a ∈ l, a.all okNd = true) : ∀ k, k ≤ l.length → vmL (l.take k) < 64
  | 0, _ => by simp [vmL]
  | k + 1, hk => by
    rw [vmL_take l k (by omega)]
    exact Nat.or_lt_two_pow (n := 6) (vmL_lt h k (by omega)) (vm_64 (h _ (List.getElem_mem (by omega))))
theorem vmL_one (a : List Nd) : vmL [a] = vm a := by simp [vmL]
theorem or64 : ∀ (m n : Fin 64), bits BinOp.or IntKind.i64 ((m : Nat) : Int) ((n : Nat) : Int) = (((m : Nat) ||| (n : Nat) : Nat) : Int) := by decide +kernel
theorem mem_nodup : ∀ m : Fin 64, ((mem m).map Int.toNat).Nodup := by decide +kernel
theorem mem_or : ∀ (m n : Fin 64), (mem n).foldl (fun acc i => acc ||| 2 ^ i.toNat) (m : Nat) = (m : Nat) ||| (n : Nat) := by decide +kernel
theorem mem_fold_lt (l : List Int) (h : ∀ x ∈ l, ∃ k : Nat, k < 6 ∧ x = k) : ∀ m, m < 64 → l.foldl (fun acc i => acc ||| 2 ^ i.toNat) m < 64 := by
  induction l with
  | nil => intro m hm; exact hm
  | cons x l ih =>
    intro m hm
    obtain ⟨k, hk, rfl⟩ := h x (by simp)
    exact ih (fun y hy => h y (by simp [hy])) _ (or_lt ⟨m, hm⟩ ⟨k, hk⟩)
--
set_option maxRecDepth 20000 in
set_option maxHeartbeats 1000000 in
theorem variablesIn_any (l : List (List Nd)) (v : Value) (w : World) (hv : NdsL w v l) (ha : ∀ a ∈ l, a.all okNd = true) : Calls Tryz.prog 67 #[v] w (RetI w (mem (vmL l))) := by
  have hv0 := hv
  obtain ⟨p, cap, rfl, hle, hmx, hlen, _⟩ := hv
  unfold maxLen at hmx
  have HA := hid ha
  have HL := hid (vmL_lt ha); clear ha
  have HM := hid (fun w2 => membersOf_any (vmL l) w2 (by have := HL.out l.length (Nat.le_refl _); rwa [List.take_length] at this))
  go_enter Tryz.func67, Tryz.ntmps67
  go_wp2
  go_loopw [3, 8] (fun c i' wr => ∃ k : Nat, k ≤ l.length ∧ i' = .int .i64 k ∧ c = .int .i64 (vmL (l.take k)) ∧ Keeps w wr) (fun _ i _ => l.length - (intOf i).toNat)
  case atStart => exact ⟨0, by omega, rfl, rfl, Keeps.refl w⟩
  case round =>
    obtain ⟨k, hk, rfl, rfl, kw⟩ := hrel
    by_cases hlt : k < l.length
    · have hlt' : (k : Int) < l.length := by omega
      obtain ⟨b, off, u, rfl, hc, hu⟩ := (NdsL.keeps hv0 kw).get k hlt
      obtain ⟨pu, nu, cu, rfl⟩ := hu.shape
      have hok := HA.out _ (List.getElem_mem hlt)
      have hst := vmL_take l k hlt
      have hor := or64 ⟨vmL (l.take k), HL.out k hk⟩ ⟨vm l[k], vm_64 hok⟩
      simp only at hor
      rw [← hst] at hor
      have HV := hid (variableMask_any l[k] _ wr hu hok)
      have HO := hid hor; clear hor hst hu hok hv0
      generalize vm l[k] = y at *
      generalize vmL (l.take k) = x at *
      go_wp2_with fail
      refine HV.out.mono ?_; rintro e w2 ⟨rfl, k2⟩
      go_wp2_with fail
      go_roundw
      case rel => exact ⟨k + 1, by omega, by go_num, by rw [HO.out], kw.trans k2⟩
      case measure => simp [intOf]; omega
    · obtain rfl : k = l.length := by omega
      have hlt' : ¬ (l.length : Int) < l.length := by omega
      rw [List.take_length]
      go_wp2_with fail
      refine (HM.out _).mono ?_; rintro e w2 ⟨v2, rfl, hv2, k2⟩
      go_wp2_with fail
      go_ret
      exact ⟨_, rfl, hv2.mono kw.size, kw.trans k2⟩
end Go.Proofs.YtponaoefpicfpaaGreatDoor
