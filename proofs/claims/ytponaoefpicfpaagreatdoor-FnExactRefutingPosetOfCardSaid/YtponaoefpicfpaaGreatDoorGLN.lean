/- Whether a logic is below another one in the table: both sides. -/
import Derived.Test.YtponaoefpicfpaaGreatDoorGOT
import Derived.Test.YtponaoefpicfpaaGreatDoorGOD
import Derived.Test.YtponaoefpicfpaaGreatDoorGQR
namespace Go.Proofs.YtponaoefpicfpaaGreatDoor
open Go.RowKit
def belQ (k1 k2 : Nat) (p : List Nat) : Bool := !(ofK p k2 && !ofK p k1)
def belB (k1 k2 : Nat) : Bool := smallR.all (belQ k1 k2)
theorem small_Pos {p : List Nat} (h : p ∈ smallR) : Pos p := by
  obtain ⟨_, h2, h3, h4⟩ := small_pos h
  exact Pos.of (by omega) h3 h4
theorem nil_Pos : Pos [] := Pos.of (by simp) (fun i => by simp) (by decide)
theorem ofK_nil : ∀ k : Fin 9, ofK [] k = true := by decide +kernel
theorem belQ_nil {k1 k2 : Nat} (h1 : k1 < 9) (h2 : k2 < 9) : belQ k1 k2 [] = true := by
  unfold belQ
  rw [ofK_nil ⟨k1, h1⟩, ofK_nil ⟨k2, h2⟩]; rfl
theorem allC_Pos {p : List Nat} {n : Nat} (hn : n ≤ 4) (h : p ∈ allR n) : Pos p := by
  by_cases h0 : n = 0
  · subst h0
    rw [posets_0] at h
    simp at h; subst h; exact nil_Pos
  · refine small_Pos ?_
    have key : ∀ k, k ≤ 4 → ∀ m, m ≤ k → 1 ≤ m → ∀ p ∈ allR m, p ∈ smallK k := by
      intro k
      induction k with
      | zero => intro _ m h1 h2; omega
      | succ k ih =>
        intro hk m h1 h2 p hp
        rw [smallK]
        by_cases e : m = k + 1
        · subst e; exact List.mem_append.2 (.inr hp)
        · exact List.mem_append.2 (.inl (ih (by omega) m (by omega) h2 p hp))
    exact key 4 (by omega) n hn (by omega) p h
theorem allR_24 {n : Nat} (h : n ≤ 4) : (allR n).length ≤ 24 := by
  by_cases h0 : n = 0
  · subst h0; rw [posets_0]; simp
  · exact allR_len (by omega) h
theorem bel_all {k1 k2 : Nat} (h1 : k1 < 9) (h2 : k2 < 9) : (allC 5).all (belQ k1 k2) = belB k1 k2 := by
  rw [allC_five, List.all_cons, belQ_nil h1 h2, Bool.true_and]; rfl
theorem allC_succ (n : Nat) : allC (n + 1) = allC n ++ allR n := rfl
/-! ### IndexFunc and ContainsFunc at posets -/
--
set_option maxRecDepth 20000 in
theorem indexFuncPs (pr : List Nat → Bool) (f : FuncId) (cp : Array Value) (B : Nat) (ls : List (List Nat)) (v : Value) (w : World) (hv : OwnPs w B v ls) (hcf : Enters f)
    (hf : ∀ (l : List Nat) (q : Option Addr) (c : Nat) (w1 : World), l ∈ ls → Keeps w w1 → OwnI w1 B (.slice q l.length c) (zs l) → Calls Tryz.prog f (#[.agg #[.int .i64 (l.length : Nat), .slice q l.length c]] ++ cp) w1 fun e w2 => e = .returned (.bool (pr l)) ∧ Keeps w1 w2) :
    Calls Tryz.prog 187 #[v, .func (.func f) #[] cp] w fun e w' => e = .returned (.int .i64 (idxOf pr ls 0)) ∧ Keeps w w' := by
  have HV := hid hv
  obtain ⟨p, cap, rfl, hle, hmx⟩ := hv.shape
  unfold maxLen at hmx
  clear hv
  have HF := hid hf; clear hf
  have hcf' : ∀ args w, (callFunc f args).run Tryz.prog w = .ok (.enter f args) w := hcf
  clear hcf
  go_enter Tryz.func187, Tryz.ntmps187
  go_wp2
  go_loopw [4, 8] (fun r i' wr => ∃ k : Nat, k ≤ ls.length ∧ Hid (idxOf pr ls 0 = idxOf pr (ls.drop k) k) ∧ Keeps w wr ∧ i' = .int .i64 k ∧ r = .int .i64 0) (fun _ i _ => ls.length - (intOf i).toNat)
  case atStart => exact ⟨0, by omega, hid (by simp), Keeps.refl w, rfl, rfl⟩
  case round =>
    obtain ⟨k, hk, Hs, kw, rfl, rfl⟩ := hrel
    by_cases hlt : k < ls.length
    · obtain ⟨b1, o1, u1, rfl, h1, h2, hnd⟩ := (HV.out.keeps kw).get k hlt
      obtain ⟨q1, c1', e, -, -, -⟩ := At.of_own hnd
      rw [zs_length] at e
      subst e
      have hd := hid (idxOf_drop pr ls k hlt)
      have hlt' : (k : Int) < ls.length := by omega
      have HC := hid (HF.out ls[k] q1 c1' wr (List.getElem_mem hlt) kw hnd)
      have KW := hid kw
      clear hnd kw
      generalize hx : ls[k] = x at *
      clear hx
      generalize x.length = lx at *
      cases hp : pr x
      all_goals
        have Hp := hid hp; clear hp
        go_wp2_with ((with_reducible refine HC.out.mono ?_); rintro e w2 ⟨rfl, k2⟩; rw [Hp.out])
      · go_roundw
        case rel => exact ⟨k + 1, by omega, hid (by rw [Hs.out, hd.out, Hp.out]; rfl), KW.out.trans k2, by go_num, rfl⟩
        case measure => simp [intOf]; omega
      · go_ret
        exact ⟨ret_int (by rw [Hs.out, hd.out, Hp.out]; rfl), KW.out.trans k2⟩
    · have hlt' : ¬ (k : Int) < ls.length := by omega
      go_wp2
      go_ret
      exact ⟨ret_int (by rw [Hs.out, idxOf_end _ _ _ (by omega)]), kw⟩
theorem containsFuncPs (pr : List Nat → Bool) (f : FuncId) (cp : Array Value) (B : Nat) (ls : List (List Nat)) (v : Value) (w : World) (hv : OwnPs w B v ls) (hcf : Enters f)
    (hf : ∀ (l : List Nat) (q : Option Addr) (c : Nat) (w1 : World), l ∈ ls → Keeps w w1 → OwnI w1 B (.slice q l.length c) (zs l) → Calls Tryz.prog f (#[.agg #[.int .i64 (l.length : Nat), .slice q l.length c]] ++ cp) w1 fun e w2 => e = .returned (.bool (pr l)) ∧ Keeps w1 w2) :
    Calls Tryz.prog 98 #[v, .func (.func f) #[] cp] w fun e w' => e = .returned (.bool (ls.any pr)) ∧ Keeps w w' := by
  have HI := hid (indexFuncPs pr f cp B ls v w hv hcf hf)
  obtain ⟨p, cap, rfl, _, _⟩ := hv.shape
  have HA := hid (idxOf_any pr ls 0)
  clear hv hf hcf
  generalize idxOf pr ls 0 = r at *
  go_enter Tryz.func98, Tryz.ntmps98
  go_wp2_with fail
  refine HI.out.mono ?_; rintro e w2 ⟨rfl, k2⟩
  go_wp2_with fail
  go_ret
  exact ⟨ret_bool (by first | exact HA.out | exact HA.out.symm | (rw [Bool.eq_iff_iff, decide_eq_true_eq, ← HA.out]; done)), k2⟩
--
theorem enters_bel1 : Enters 99 := fun _ _ => by kernel_rfl
set_option maxRecDepth 20000 in
theorem isBelow_1_any (p : List Nat) (hp : Pos p) (k1 k2 : Nat) (h1 : k1 < 9) (h2 : k2 < 9) (g1 g2 : Nat) (v : Value) (w : World) (hv : Ints w v (zs p))
    (c1 : w.cell? ⟨g1, 0, none⟩ = some (.string (nameK k1))) (c2 : w.cell? ⟨g2, 0, none⟩ = some (.string (nameK k2))) :
    Calls Tryz.prog 99 #[.agg #[.int .i64 p.length, v], .pointer (some ⟨g2, 0, none⟩), .pointer (some ⟨g1, 0, none⟩)] w fun e w' => e = .returned (.bool (ofK p k2 && !ofK p k1)) ∧ Keeps w w' := by
  have kA := (Keeps.refl w).alloc (.cells #[.int .i64 p.length, v] 32)
  obtain ⟨d0, d1⟩ := BoxF.made w p.length v 32
  have H1 := hid (fun wz (kz : Keeps w wz) => isOf_any p hp k1 h1 v wz (hv.keeps kz))
  have H2 := hid (fun wz (kz : Keeps w wz) => isOf_any p hp k2 h2 v wz (hv.keeps kz))
  replace c1 := kA.cell c1
  replace c2 := kA.cell c2
  obtain ⟨q, c, rfl, _⟩ := hv
  rw [zs_length] at *
  clear hp
  generalize ofK p k1 = r1 at *
  generalize ofK p k2 = r2 at *
  generalize nameK k1 = s1 at *
  generalize nameK k2 = s2 at *
  generalize p.length = n at *
  cases r2
  · go_enter Tryz.func99, Tryz.ntmps99
    go_wp2_with fail
    refine (H2.out _ kA).mono ?_; rintro e w2 ⟨rfl, k2⟩
    go_wp2_with fail
    go_ret
    exact ⟨rfl, kA.trans k2⟩
  · go_enter Tryz.func99, Tryz.ntmps99
    go_wp2_with fail
    refine (H2.out _ kA).mono ?_; rintro e w2 ⟨rfl, k2⟩
    replace c1 := k2.cell c1
    replace d0 := k2.cell d0
    replace d1 := k2.cell d1
    clear c2
    go_wp2_with fail
    refine (H1.out _ (kA.trans k2)).mono ?_; rintro e w3 ⟨rfl, k3⟩
    go_wp2_with fail
    go_ret
    exact ⟨by first | rfl | simp, (kA.trans k2).trans k3⟩
set_option maxRecDepth 20000 in
theorem isBelowInTable_any (k1 k2 : Nat) (h1 : k1 < 9) (h2 : k2 < 9) (B : Nat) (v : Value) (w : World) (hv : OwnPs w B v smallR) :
    Calls Tryz.prog 38 #[.string (nameK k1), .string (nameK k2), v] w fun e w' => e = .returned (.bool (belB k1 k2)) ∧ Keeps w w' := by
  have kA := ((Keeps.refl w).alloc (.cells #[.string (nameK k1)] 9)).alloc (.cells #[.string (nameK k2)] 9)
  have c1 : ((w.alloc (.cells #[.string (nameK k1)] 9)).alloc (.cells #[.string (nameK k2)] 9)).cell? ⟨w.heap.size, 0, none⟩ = some (.string (nameK k1)) := by simp
  have c2 : ((w.alloc (.cells #[.string (nameK k1)] 9)).alloc (.cells #[.string (nameK k2)] 9)).cell? ⟨w.heap.size + 1, 0, none⟩ = some (.string (nameK k2)) := by simp
  have HC := hid (containsFuncPs (fun p => ofK p k2 && !ofK p k1) 99 #[.pointer (some ⟨w.heap.size + 1, 0, none⟩), .pointer (some ⟨w.heap.size, 0, none⟩)] B smallR v _ (hv.keeps kA) enters_bel1 (fun l q c wz hl kz ho =>
    isBelow_1_any l (small_Pos hl) k1 k2 h1 h2 w.heap.size (w.heap.size + 1) _ wz (ho.ints (by rw [zs_length]; have := (small_pos hl).2.1; omega)) (kz.cell c1) (kz.cell c2)))
  have HB : Hid ((!(smallR.any fun p => ofK p k2 && !ofK p k1)) = belB k1 k2) := hid (by
    unfold belB belQ
    induction smallR with
    | nil => rfl
    | cons x l ih => rw [List.any_cons, List.all_cons, Bool.not_or, ih])
  obtain ⟨p, cap, rfl, _, _⟩ := hv.shape
  clear c1 c2 hv
  generalize (smallR.any fun p => ofK p k2 && !ofK p k1) = r at *
  generalize smallR.length = n at *
  generalize nameK k1 = s1 at *
  generalize nameK k2 = s2 at *
  go_enter Tryz.func38, Tryz.ntmps38
  go_wp2_with fail
  refine HC.out.mono ?_; rintro e w2 ⟨rfl, k2⟩
  go_wp2_with fail
  go_ret
  exact ⟨ret_bool HB.out, kA.trans k2⟩
--

set_option maxRecDepth 20000 in
set_option maxHeartbeats 1000000 in
theorem l30Below_any (k1 k2 : Nat) (h1 : k1 < 9) (h2 : k2 < 9) (w : World) :
    Calls Tryz.prog 36 #[.string (nameK k1), .string (nameK k2)] w fun e w' => e = .returned (.bool (belB k1 k2)) ∧ Keeps w w' := by
  have HAL := hid (fun n (hn : n ≤ 4) wz => l16All_any n hn wz)
  have HPO := hid (fun n p (hn : n ≤ 4) (h : p ∈ allR n) => allC_Pos hn h)
  have HL24 := hid (fun n (hn : n ≤ 4) => allR_24 hn)
  have HO1 := hid (fun p (hp : Pos p) v wz (hv : Ints wz v (zs p)) => l30Of_any p hp k1 h1 v wz hv)
  have HO2 := hid (fun p (hp : Pos p) v wz (hv : Ints wz v (zs p)) => l30Of_any p hp k2 h2 v wz hv)
  have HB := hid (bel_all h1 h2)
  have HQ : Hid (∀ p, belQ k1 k2 p = !(ofK p k2 && !ofK p k1)) := hid fun _ => rfl
  have HCS := hid (fun n => show (allC (n + 1)).all (belQ k1 k2) = ((allC n).all (belQ k1 k2) && (allR n).all (belQ k1 k2)) by rw [allC_succ, List.all_append])
  have HM : Hid (∀ n, n < 5 → (allC (n + 1)).all (belQ k1 k2) = false → (allC 5).all (belQ k1 k2) = false) := hid fun n hn h => by
    have step : ∀ m, (allC m).all (belQ k1 k2) = false → (allC (m + 1)).all (belQ k1 k2) = false := fun m hm => by rw [allC_succ, List.all_append, hm]; rfl
    have : n = 0 ∨ n = 1 ∨ n = 2 ∨ n = 3 ∨ n = 4 := by omega
    rcases this with rfl | rfl | rfl | rfl | rfl
    · exact step _ (step _ (step _ (step _ h)))
    · exact step _ (step _ (step _ h))
    · exact step _ (step _ h)
    · exact step _ h
    · exact h
  generalize belB k1 k2 = R at *
  obtain ⟨Q, hQ⟩ : ∃ Q : List Nat → Bool, Q = belQ k1 k2 := ⟨_, rfl⟩
  rw [← hQ] at HB HQ HCS HM
  clear hQ
  obtain ⟨P1, hP1⟩ : ∃ P : List Nat → Bool, P = fun p => ofK p k1 := ⟨_, rfl⟩
  obtain ⟨P2, hP2⟩ : ∃ P : List Nat → Bool, P = fun p => ofK p k2 := ⟨_, rfl⟩
  have f1 : ∀ p, ofK p k1 = P1 p := fun p => by rw [hP1]
  have f2 : ∀ p, ofK p k2 = P2 p := fun p => by rw [hP2]
  simp only [f1, f2] at HO1 HO2 HQ
  clear hP1 hP2 f1 f2
  generalize nameK k1 = s1 at *
  generalize nameK k2 = s2 at *
  go_enter Tryz.func36, Tryz.ntmps36
  go_wp2_with fail
  go_loopw [4, 5] (fun s4 s5 wr => ∃ n : Nat, n ≤ 5 ∧ s4 = .bool false ∧ s5 = .int .i64 n ∧ Hid ((allC n).all Q = true) ∧ Keeps w wr) (fun _ s5 _ => 5 - (intOf s5).toNat)
  case atStart => exact ⟨0, by omega, rfl, rfl, hid rfl, Keeps.refl w⟩
  case round =>
    obtain ⟨n, hn, rfl, rfl, HI, kw⟩ := hrel
    by_cases hlt : n < 5
    · have hlt' : (n : Int) ≤ 4 := by omega
      have HA := hid (HAL.out n (by omega) wr)
      have HPn := hid (fun p (h : p ∈ allR n) => HPO.out n p (by omega) h)
      have hl24 := HL24.out n (by omega)
      have HCn := hid (HCS.out n)
      rw [HI.out, Bool.true_and] at HCn
      have HMn := hid (HM.out n hlt)
      generalize allR n = L at *
      have KW := hid kw; clear kw
      generalize hwo : wr = wo at *
      clear hwo
      go_wp2_with fail
      refine HA.out.mono ?_; rintro e w2 ⟨v2, rfl, hv2, k2⟩
      obtain ⟨p2, q2, rfl, hle2, hmx2⟩ := hv2.shape
      unfold maxLen at hmx2
      have HV2 := hid hv2; clear hv2
      have HK2 := hid (KW.out.trans k2); clear k2
      go_wp2_with fail
      go_loopw [4, 7] (fun s4 s7 wx => ∃ i : Nat, i ≤ L.length ∧ s4 = .bool false ∧ s7 = .int .i64 i ∧ Hid (∀ j (h : j < L.length), j < i → Q L[j] = true) ∧ Keeps w2 wx) (fun _ s7 _ => L.length - (intOf s7).toNat)
      case atStart => exact ⟨0, by omega, rfl, rfl, hid (fun j _ h => by omega), Keeps.refl w2⟩
      case round =>
        obtain ⟨i, hi, rfl, rfl, HJ, kx⟩ := hrel
        by_cases hil : i < L.length
        · have hil' : (i : Int) < L.length := by omega
          have hg := (HV2.out.keeps kx).get i hil
          obtain ⟨b1, o1, u, rfl, c0, c1, hou⟩ := hg
          have hpx := HPn.out L[i] (List.getElem_mem hil)
          have hin := hou.ints (by rw [zs_length]; have := hpx.1; omega)
          have H1 := hid (fun wz (kz : Keeps wr wz) => HO1.out L[i] hpx u wz (hin.keeps kz))
          have H2 := hid (fun wz (kz : Keeps wr wz) => HO2.out L[i] hpx u wz (hin.keeps kz))
          have HQi := hid (HQ.out L[i])
          have HFA := hid (fun (h : Q L[i] = false) => all_false_at' hil h)
          have HNX := hid (fun (h : Q L[i] = true) j (hj : j < L.length) (hji : j < i + 1) => show Q L[j] = true by
            by_cases e : j = i
            · subst e; exact h
            · exact HJ.out j hj (by omega))
          obtain ⟨q1, c1', rfl, _⟩ := hin
          rw [zs_length] at *
          have KX := hid kx; clear kx
          clear hpx hou
          generalize hx : L[i] = x at *
          clear hx
          generalize P1 x = r1 at *
          generalize P2 x = r2 at *
          generalize hqx : Q x = qx at *
          have HQX := hid hqx; clear hqx
          generalize x.length = lx at *
          cases r2
          · have hqt : Hid (qx = true) := hid (by rw [HQi.out]; rfl)
            go_wp2_with fail
            refine (H2.out _ (Keeps.refl _)).mono ?_; rintro e w3 ⟨rfl, k3⟩
            go_wp2_with fail
            go_roundw
            case rel => exact ⟨i + 1, by omega, rfl, by go_num, hid (HNX.out hqt.out), KX.out.trans k3⟩
            case measure => simp [intOf]; omega
          · cases r1
            · have hqt : Hid (qx = false) := hid (by rw [HQi.out]; rfl)
              go_wp2_with fail
              refine (H2.out _ (Keeps.refl _)).mono ?_; rintro e w3 ⟨rfl, k3⟩
              replace c0 := k3.cell c0
              replace c1 := k3.cell c1
              go_wp2_with fail
              refine (H1.out _ k3).mono ?_; rintro e w4 ⟨rfl, k4⟩
              go_wp2_with fail
              go_ret
              exact ⟨ret_bool (by rw [← HB.out, HMn.out (by rw [HCn.out]; exact HFA.out hqt.out)]), HK2.out.trans ((KX.out.trans k3).trans k4)⟩
            · have hqt : Hid (qx = true) := hid (by rw [HQi.out]; rfl)
              go_wp2_with fail
              refine (H2.out _ (Keeps.refl _)).mono ?_; rintro e w3 ⟨rfl, k3⟩
              replace c0 := k3.cell c0
              replace c1 := k3.cell c1
              go_wp2_with fail
              refine (H1.out _ k3).mono ?_; rintro e w4 ⟨rfl, k4⟩
              go_wp2_with fail
              go_roundw
              case rel => exact ⟨i + 1, by omega, rfl, by go_num, hid (HNX.out hqt.out), (KX.out.trans k3).trans k4⟩
              case measure => simp [intOf]; omega
        · have e : i = L.length := by omega
          have hil' : ¬ (i : Int) < L.length := by omega
          have HT : Hid ((allC (n + 1)).all Q = true) := hid (by
            rw [HCn.out, List.all_eq_true]
            intro y hy
            obtain ⟨j, hj, rfl⟩ := List.getElem_of_mem hy
            exact HJ.out j hj (by omega))
          go_wp2_with fail
          go_roundw
          case rel => exact ⟨n + 1, by omega, rfl, by go_num, HT, HK2.out.trans kx⟩
          case measure => simp [intOf]; omega
    · have e : n = 5 := by omega
      subst e
      have hlt' : ¬ ((5 : Nat) : Int) ≤ 4 := by omega
      have HR : Hid (true = R) := hid (by rw [← HB.out, HI.out])
      go_wp2_with fail
      go_ret
      exact ⟨ret_bool HR.out, kw⟩
end Go.Proofs.YtponaoefpicfpaaGreatDoor
/- IsBelowIntermediate: both sides. -/
namespace Go.Proofs.YtponaoefpicfpaaGreatDoor
open Go.RowKit
def blC (s t : ByteArray) : Int := if 0 ≤ findS names9 s ∧ 0 ≤ findS names9 t then 0 else 4
def blR (s t : ByteArray) : Bool := if 0 ≤ findS names9 s ∧ 0 ≤ findS names9 t then belB (findS names9 s).toNat (findS names9 t).toNat else false
theorem find_neg {s : ByteArray} (h : ¬ 0 ≤ findS names9 s) : findS names9 s = -1 := by
  rcases find9 s with h2 | ⟨k, _, h2⟩
  · exact h2
  · omega
--
set_option maxRecDepth 20000 in
theorem specIsBelow (s t : ByteArray) (w : World) : Calls Tryz.prog 8 #[.string s, .string t] w fun e w' => e = .returned (.tuple #[.bool (blR s t), .int .i64 (blC s t)]) ∧ Keeps w w' := by
  have HS := hid (fun wz => l30Known_any s wz)
  have HT := hid (fun wz => l30Known_any t wz)
  have HR : Hid (blR s t = if 0 ≤ findS names9 s ∧ 0 ≤ findS names9 t then belB (findS names9 s).toNat (findS names9 t).toNat else false) := hid rfl
  have HC : Hid (blC s t = if 0 ≤ findS names9 s ∧ 0 ≤ findS names9 t then 0 else 4) := hid rfl
  by_cases h1 : 0 ≤ findS names9 s
  · rw [decide_eq_true h1] at HS
    by_cases h2 : 0 ≤ findS names9 t
    · rw [decide_eq_true h2] at HT
      rw [if_pos ⟨h1, h2⟩] at HR HC
      obtain ⟨k, hk⟩ := Int.eq_ofNat_of_zero_le h1
      obtain ⟨j, hj⟩ := Int.eq_ofNat_of_zero_le h2
      obtain ⟨hk9, rfl⟩ := find9_name hk
      obtain ⟨hj9, rfl⟩ := find9_name hj
      rw [hk, hj] at HR
      have HB := hid (fun wz => l30Below_any k j hk9 hj9 wz)
      rw [HC.out, HR.out]
      simp only [Int.toNat_natCast]
      clear HR HC h1 h2 hk hj
      generalize belB k j = r at *
      generalize nameK k = s1 at *
      generalize nameK j = s2 at *
      go_enter Tryz.func8, Tryz.ntmps8
      go_wp2_with fail
      refine (HS.out _).mono ?_; rintro e w2 ⟨rfl, k2⟩
      go_wp2_with fail
      refine (HT.out _).mono ?_; rintro e w3 ⟨rfl, k3⟩
      go_wp2_with fail
      refine (HB.out _).mono ?_; rintro e w4 ⟨rfl, k4⟩
      go_wp2_with fail
      go_ret2
      exact ⟨rfl, (k2.trans k3).trans k4⟩
    · rw [decide_eq_false h2] at HT
      rw [if_neg (fun h => h2 h.2)] at HR HC
      rw [HC.out, HR.out]
      clear HR HC h1 h2
      go_enter Tryz.func8, Tryz.ntmps8
      go_wp2_with fail
      refine (HS.out _).mono ?_; rintro e w2 ⟨rfl, k2⟩
      go_wp2_with fail
      refine (HT.out _).mono ?_; rintro e w3 ⟨rfl, k3⟩
      go_wp2_with fail
      go_ret2
      exact ⟨rfl, k2.trans k3⟩
  · rw [decide_eq_false h1] at HS
    rw [if_neg (fun h => h1 h.1)] at HR HC
    rw [HC.out, HR.out]
    clear HR HC h1 HT
    go_enter Tryz.func8, Tryz.ntmps8
    go_wp2_with fail
    refine (HS.out _).mono ?_; rintro e w2 ⟨rfl, k2⟩
    go_wp2_with fail
    go_ret2
    exact ⟨rfl, k2⟩
--
set_option maxRecDepth 20000 in
theorem implIsBelow (s t : ByteArray) (w : World) (hL : LaidS 1 names9 w) :
    Calls Tryz.prog 9 #[.string s, .string t] w fun e w' => e = .returned (.tuple #[.bool (blR s t), .int .i64 (blC s t)]) ∧ Keeps w w' := by
  have HS := hid (fun wz (kz : Keeps w wz) => intermediateAt_any s wz (hL.keeps kz))
  have HT := hid (fun wz (kz : Keeps w wz) => intermediateAt_any t wz (hL.keeps kz))
  have HR : Hid (blR s t = if 0 ≤ findS names9 s ∧ 0 ≤ findS names9 t then belB (findS names9 s).toNat (findS names9 t).toNat else false) := hid rfl
  have HC : Hid (blC s t = if 0 ≤ findS names9 s ∧ 0 ≤ findS names9 t then 0 else 4) := hid rfl
  have kw := Keeps.refl w
  clear hL
  by_cases h1 : 0 ≤ findS names9 s
  · by_cases h2 : 0 ≤ findS names9 t
    · rw [if_pos ⟨h1, h2⟩] at HR HC
      obtain ⟨k, hk⟩ := Int.eq_ofNat_of_zero_le h1
      obtain ⟨j, hj⟩ := Int.eq_ofNat_of_zero_le h2
      obtain ⟨hk9, rfl⟩ := find9_name hk
      obtain ⟨hj9, rfl⟩ := find9_name hj
      rw [hk, hj] at HR
      rw [hk] at HS
      rw [hj] at HT
      have HB := hid (fun B v wz (hv : OwnPs wz B v smallR) => isBelowInTable_any k j hk9 hj9 B v wz hv)
      have HSM := hid (fun wz => smallPosets_any wz)
      rw [HC.out, HR.out]
      simp only [Int.toNat_natCast]
      clear HR HC h1 h2 hk hj
      generalize belB k j = r at *
      generalize nameK k = s1 at *
      generalize nameK j = s2 at *
      go_enter Tryz.func9, Tryz.ntmps9
      go_wp2_with fail
      refine (HS.out _ kw).mono ?_; rintro e w' ⟨rfl, rfl⟩
      go_wp2_with fail
      refine (HT.out _ kw).mono ?_; rintro e w' ⟨rfl, rfl⟩
      go_wp2_with fail
      refine (HSM.out _).mono ?_; rintro e w2 ⟨v2, rfl, hv2, k2⟩
      have HB2 := hid (HB.out _ v2 w2 hv2)
      obtain ⟨p2, q2, rfl, _, _⟩ := hv2.shape
      clear hv2
      go_wp2_with fail
      refine HB2.out.mono ?_; rintro e w4 ⟨rfl, k4⟩
      go_wp2_with fail
      go_ret2
      exact ⟨rfl, k2.trans k4⟩
    · rw [if_neg (fun h => h2 h.2)] at HR HC
      rw [find_neg h2] at HT
      obtain ⟨k, hk⟩ := Int.eq_ofNat_of_zero_le h1
      rw [hk] at HS
      rw [HC.out, HR.out]
      clear HR HC h1 h2 hk
      go_enter Tryz.func9, Tryz.ntmps9
      go_wp2_with fail
      refine (HS.out _ kw).mono ?_; rintro e w' ⟨rfl, rfl⟩
      go_wp2_with fail
      refine (HT.out _ kw).mono ?_; rintro e w' ⟨rfl, rfl⟩
      go_wp2_with fail
      go_ret2
      exact ⟨rfl, kw⟩
  · rw [if_neg (fun h => h1 h.1)] at HR HC
    rw [find_neg h1] at HS
    rw [HC.out, HR.out]
    clear HR HC h1 HT
    go_enter Tryz.func9, Tryz.ntmps9
    go_wp2_with fail
    refine (HS.out _ kw).mono ?_; rintro e w' ⟨rfl, rfl⟩
    go_wp2_with fail
    go_ret2
    exact ⟨rfl, kw⟩
end Go.Proofs.YtponaoefpicfpaaGreatDoor
/- Walks: the laws' own measures, copies, comparisons and marks of models. -/
namespace Go.Proofs.YtponaoefpicfpaaGreatDoor
open Go.RowKit
/-- a model's two owned rows, which lie apart -/
def OwnM (w : World) (B : Nat) (va vb : Value) (a b : List Int) : Prop := OwnI w B va a ∧ OwnI w B vb b ∧ Sep va vb
theorem OwnM.keeps {w w' : World} {B : Nat} {va vb : Value} {a b : List Int} (h : OwnM w B va vb a b) (k : Keeps w w') : OwnM w' B va vb a b := ⟨h.1.keeps k, h.2.1.keeps k, h.2.2⟩
theorem OwnM.mono {w : World} {B B' : Nat} {va vb : Value} {a b : List Int} (h : OwnM w B va vb a b) (k : B' ≤ B) : OwnM w B' va vb a b := ⟨h.1.mono k, h.2.1.mono k, h.2.2⟩
theorem OwnM.low {w w' : World} {B : Nat} {va vb : Value} {a b : List Int} (h : OwnM w B va vb a b) (k : Low w w' B) : OwnM w' B va vb a b := ⟨h.1.low k, h.2.1.low k, h.2.2⟩
theorem OwnM.lowOf {w0 w : World} {B : Nat} {va vb : Value} {a b : List Int} (h : OwnM w0 B va vb a b) (k : Keeps w0 w) : Low w0 w B := by have _ := h; exact Low.of k B
end Go.Proofs.YtponaoefpicfpaaGreatDoor
