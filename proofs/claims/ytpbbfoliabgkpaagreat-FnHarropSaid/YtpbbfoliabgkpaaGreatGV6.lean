/- The program's firstCandidate: the first candidate substitution for which a condition holds. (printed by mkzd.py) -/
import Derived.Test.YtpbbfoliabgkpaaGreatGK1
import Derived.Test.YtpbbfoliabgkpaaGreatGK8
import Derived.Test.YtpbbfoliabgkpaaGreatGV5
import Derived.MapFrom
import Derived.Maps.OwnIn
import Derived.Test.YtpbbfoliabgkpaaGreatGVE
import Derived.Test.YtpbbfoliabgkpaaGreatGW4
namespace Go.Proofs.YtpbbfoliabgkpaaGreat
open Go.RowKit
--
set_option maxRecDepth 20000 in
set_option maxHeartbeats 4000000 in
theorem firstCandidate_any (P : List Fm → Bool) (vs : List Int) (cs : List Fm) (fid : FuncId) (cph : Array Value) (w : World) (vv vc : Value)
    (hvv : Ints w vv vs) (hvc : NdsL w vc (cs.map Fm.enc)) (hvs : ∀ x ∈ vs, ∃ k : Nat, k < 6 ∧ x = k) (hen : Enters fid) (hcl : cs.length ≤ 8) (hvl : vs.length ≤ 6) (hc40 : ∀ c ∈ cs, c.enc.length ≤ 40)
    (hh : ∀ σ v w1, Keeps w w1 → NdsL w1 v (σ.map Fm.enc) → σ.length = 6 → (∀ x ∈ σ, x ∈ idF ∨ x ∈ cs) → Calls Tryz.prog fid (#[v] ++ cph) w1 fun e w2 => e = .returned (.bool (P σ)) ∧ Keeps w1 w2) :
    Calls Tryz.prog 101 #[vv, vc, .func (.func fid) #[] cph] w fun e w' => ∃ u, e = .returned (.tuple #[u, .int .i64 (if (firstC P cs vs idF).isSome then 0 else 4)]) ∧ OwnL w' w.heap.size u (((firstC P cs vs idF).getD []).map Fm.enc) ∧ Keeps w w' := by
  have hvv0 := hvv
  obtain ⟨pv, cv, rfl, hlv, hmv, _, _⟩ := hvv
  obtain ⟨pc, nc, cc, rfl⟩ := NdsL.shapeL hvc
  have HF := hid (fun g (hg : w.heap.size ≤ g) bv bh bi bc bf cap => fill_any P vs cs fid cph w _ _ bv bh bi bc bf g cap hvv0 hvc hvs hg hen hcl hvl hh vs.length 0 (by omega))
  have HC40 := hid hc40; clear hc40
  clear hh hvs hen
  cases hfc : firstC P cs vs idF with
  | none =>
    simp only [Option.isSome_none, Bool.false_eq_true, if_false, Option.getD_none, List.map_nil]
    have k3 : Keeps w (((w.alloc (.cells #[.slice pv vs.length cv] 66)).alloc (.cells #[.slice pc nc cc] 35)).alloc (.cells #[.func (.func fid) #[] cph] 99)) := ((Keeps.refl w).alloc _).alloc _ |>.alloc _
    have cV : (((w.alloc (.cells #[.slice pv vs.length cv] 66)).alloc (.cells #[.slice pc nc cc] 35)).alloc (.cells #[.func (.func fid) #[] cph] 99)).cell? ⟨w.heap.size, 0, none⟩ = some (.slice pv vs.length cv) := by rw [World.cell?_alloc_lt (h := by simp; omega), World.cell?_alloc_lt (h := by simp)]; simp
    have cC : (((w.alloc (.cells #[.slice pv vs.length cv] 66)).alloc (.cells #[.slice pc nc cc] 35)).alloc (.cells #[.func (.func fid) #[] cph] 99)).cell? ⟨w.heap.size + 1, 0, none⟩ = some (.slice pc nc cc) := by rw [World.cell?_alloc_lt (h := by simp)]; exact cell_newN (by simp)
    have cH : (((w.alloc (.cells #[.slice pv vs.length cv] 66)).alloc (.cells #[.slice pc nc cc] 35)).alloc (.cells #[.func (.func fid) #[] cph] 99)).cell? ⟨w.heap.size + 1 + 1, 0, none⟩ = some (.func (.func fid) #[] cph) := cell_newN (by simp)
    have hs3 : (((w.alloc (.cells #[.slice pv vs.length cv] 66)).alloc (.cells #[.slice pc nc cc] 35)).alloc (.cells #[.func (.func fid) #[] cph] 99)).heap.size = w.heap.size + 3 := by simp
    have hst : ∀ (a : Addr) (f : Fn) (b c : Array Value) (m : Mode) (w' : World), (store a (.func f b c) m).run Tryz.prog w' = stored Tryz.prog w' a (.func f b c) m := fun a f b c m w' => run_store _ w' a _ m rfl
    have hcf2 : ∀ args w, (callFunc 194 args).run Tryz.prog w = .ok (.enter 194 args) w := enters_fill
    go_enter Tryz.func101, Tryz.ntmps101
    go_wp2_with fail
    refine (identity_any _).mono ?_; rintro e w1 ⟨vI, rfl, hI, kI⟩
    obtain ⟨g, cap, rfl, hg0, hg1⟩ := hI.shape (by rw [idL_len]; omega)
    rw [idL_len] at hI ⊢
    have hgw : w.heap.size ≤ g := by omega
    have hrow1 : ∃ us, Row w1 w.heap.size g cap us idF := by
      obtain ⟨us, ho, hr, _, _⟩ := hI
      refine ⟨us, own_mono ho (by omega), by rw [hr.1]; rfl, fun i h1 h2 => ?_⟩
      have h3 := hr.2 i h1 (by rw [← hr.1]; exact h1)
      have := Far.own h3 ho (g := g) rfl (by simp [idF_enc, idF] at h2 ⊢; rcases h2 with _; (have : i = 0 ∨ i = 1 ∨ i = 2 ∨ i = 3 ∨ i = 4 ∨ i = 5 := by omega); rcases this with rfl | rfl | rfl | rfl | rfl | rfl <;> simp [Fm.enc])
      simpa [idF_enc] using this
    obtain ⟨us, hrow1⟩ := hrow1
    have k2 : Keeps w1 ((w1.alloc (.cells #[.slice (some ⟨g, 0, none⟩) 6 cap] 35)).alloc (.cells #[(.func (.func 194) #[] #[.pointer (some ⟨w.heap.size, 0, none⟩), .pointer (some ⟨w.heap.size + 1 + 1, 0, none⟩), .pointer (some ⟨w1.heap.size, 0, none⟩), .pointer (some ⟨w.heap.size + 1, 0, none⟩), .pointer (some ⟨w1.heap.size + 1, 0, none⟩)])] 157)) := ((Keeps.refl w1).alloc _).alloc _
    have hFE : FEnv ((w1.alloc (.cells #[.slice (some ⟨g, 0, none⟩) 6 cap] 35)).alloc (.cells #[(.func (.func 194) #[] #[.pointer (some ⟨w.heap.size, 0, none⟩), .pointer (some ⟨w.heap.size + 1 + 1, 0, none⟩), .pointer (some ⟨w1.heap.size, 0, none⟩), .pointer (some ⟨w.heap.size + 1, 0, none⟩), .pointer (some ⟨w1.heap.size + 1, 0, none⟩)])] 157)) w.heap.size (w.heap.size + 1 + 1) w1.heap.size (w.heap.size + 1) (w1.heap.size + 1) g cap (.slice pv vs.length cv) (.slice pc nc cc) (.func (.func fid) #[] cph) 194 :=
      ⟨k2.cell (kI.cell cV), k2.cell (kI.cell cH), by rw [World.cell?_alloc_lt (h := by simp)]; exact cell_newN rfl, k2.cell (kI.cell cC), cell_newN (by simp), by omega, by omega, by omega, by omega, by omega⟩
    have hF : Calls Tryz.prog 194 #[.int .i64 0, .pointer (some ⟨w.heap.size, 0, none⟩), .pointer (some ⟨w.heap.size + 1 + 1, 0, none⟩), .pointer (some ⟨w1.heap.size, 0, none⟩), .pointer (some ⟨w.heap.size + 1, 0, none⟩), .pointer (some ⟨w1.heap.size + 1, 0, none⟩)] ((w1.alloc (.cells #[.slice (some ⟨g, 0, none⟩) 6 cap] 35)).alloc (.cells #[(.func (.func 194) #[] #[.pointer (some ⟨w.heap.size, 0, none⟩), .pointer (some ⟨w.heap.size + 1 + 1, 0, none⟩), .pointer (some ⟨w1.heap.size, 0, none⟩), .pointer (some ⟨w.heap.size + 1, 0, none⟩), .pointer (some ⟨w1.heap.size + 1, 0, none⟩)])] 157)) (FillSays P cs vs idF w.heap.size g cap ((w1.alloc (.cells #[.slice (some ⟨g, 0, none⟩) 6 cap] 35)).alloc (.cells #[(.func (.func 194) #[] #[.pointer (some ⟨w.heap.size, 0, none⟩), .pointer (some ⟨w.heap.size + 1 + 1, 0, none⟩), .pointer (some ⟨w1.heap.size, 0, none⟩), .pointer (some ⟨w.heap.size + 1, 0, none⟩), .pointer (some ⟨w1.heap.size + 1, 0, none⟩)])] 157))) :=
      HF.out g hgw _ _ _ _ _ cap _ us idF ((k3.trans kI).trans k2) hFE (hrow1.keeps k2) (fun x hx => .inl hx)
    have HFF := hid hF; clear hF HF
    have HFE := hid hFE; clear hFE
    clear cV cC cH hI hrow1
    have k02 := (k3.trans kI).trans k2
    go_wp2_with fail
    refine HFF.out.mono ?_; rintro e w3 ⟨us3, σ3, rfl, hrow3, t3, hres, _, _⟩
    have k03 := k02.touchG t3 hgw
    have HE3 := hid (HFE.out.touch t3)
    rw [hfc]
    have hb : ((none : Option (List Fm)).isSome) = false := rfl
    rw [hb]
    clear hb hfc hres
    go_wp2_with fail
    go_ret2
    exact ⟨_, rfl, OwnL.nil _ _, k03⟩
  | some r =>
    simp only [Option.isSome_some, if_true, Option.getD_some]
    have k3 : Keeps w (((w.alloc (.cells #[.slice pv vs.length cv] 66)).alloc (.cells #[.slice pc nc cc] 35)).alloc (.cells #[.func (.func fid) #[] cph] 99)) := ((Keeps.refl w).alloc _).alloc _ |>.alloc _
    have cV : (((w.alloc (.cells #[.slice pv vs.length cv] 66)).alloc (.cells #[.slice pc nc cc] 35)).alloc (.cells #[.func (.func fid) #[] cph] 99)).cell? ⟨w.heap.size, 0, none⟩ = some (.slice pv vs.length cv) := by rw [World.cell?_alloc_lt (h := by simp; omega), World.cell?_alloc_lt (h := by simp)]; simp
    have cC : (((w.alloc (.cells #[.slice pv vs.length cv] 66)).alloc (.cells #[.slice pc nc cc] 35)).alloc (.cells #[.func (.func fid) #[] cph] 99)).cell? ⟨w.heap.size + 1, 0, none⟩ = some (.slice pc nc cc) := by rw [World.cell?_alloc_lt (h := by simp)]; exact cell_newN (by simp)
    have cH : (((w.alloc (.cells #[.slice pv vs.length cv] 66)).alloc (.cells #[.slice pc nc cc] 35)).alloc (.cells #[.func (.func fid) #[] cph] 99)).cell? ⟨w.heap.size + 1 + 1, 0, none⟩ = some (.func (.func fid) #[] cph) := cell_newN (by simp)
    have hs3 : (((w.alloc (.cells #[.slice pv vs.length cv] 66)).alloc (.cells #[.slice pc nc cc] 35)).alloc (.cells #[.func (.func fid) #[] cph] 99)).heap.size = w.heap.size + 3 := by simp
    have hst : ∀ (a : Addr) (f : Fn) (b c : Array Value) (m : Mode) (w' : World), (store a (.func f b c) m).run Tryz.prog w' = stored Tryz.prog w' a (.func f b c) m := fun a f b c m w' => run_store _ w' a _ m rfl
    have hcf2 : ∀ args w, (callFunc 194 args).run Tryz.prog w = .ok (.enter 194 args) w := enters_fill
    go_enter Tryz.func101, Tryz.ntmps101
    go_wp2_with fail
    refine (identity_any _).mono ?_; rintro e w1 ⟨vI, rfl, hI, kI⟩
    obtain ⟨g, cap, rfl, hg0, hg1⟩ := hI.shape (by rw [idL_len]; omega)
    rw [idL_len] at hI ⊢
    have hgw : w.heap.size ≤ g := by omega
    have hrow1 : ∃ us, Row w1 w.heap.size g cap us idF := by
      obtain ⟨us, ho, hr, _, _⟩ := hI
      refine ⟨us, own_mono ho (by omega), by rw [hr.1]; rfl, fun i h1 h2 => ?_⟩
      have h3 := hr.2 i h1 (by rw [← hr.1]; exact h1)
      have := Far.own h3 ho (g := g) rfl (by simp [idF_enc, idF] at h2 ⊢; rcases h2 with _; (have : i = 0 ∨ i = 1 ∨ i = 2 ∨ i = 3 ∨ i = 4 ∨ i = 5 := by omega); rcases this with rfl | rfl | rfl | rfl | rfl | rfl <;> simp [Fm.enc])
      simpa [idF_enc] using this
    obtain ⟨us, hrow1⟩ := hrow1
    have k2 : Keeps w1 ((w1.alloc (.cells #[.slice (some ⟨g, 0, none⟩) 6 cap] 35)).alloc (.cells #[(.func (.func 194) #[] #[.pointer (some ⟨w.heap.size, 0, none⟩), .pointer (some ⟨w.heap.size + 1 + 1, 0, none⟩), .pointer (some ⟨w1.heap.size, 0, none⟩), .pointer (some ⟨w.heap.size + 1, 0, none⟩), .pointer (some ⟨w1.heap.size + 1, 0, none⟩)])] 157)) := ((Keeps.refl w1).alloc _).alloc _
    have hFE : FEnv ((w1.alloc (.cells #[.slice (some ⟨g, 0, none⟩) 6 cap] 35)).alloc (.cells #[(.func (.func 194) #[] #[.pointer (some ⟨w.heap.size, 0, none⟩), .pointer (some ⟨w.heap.size + 1 + 1, 0, none⟩), .pointer (some ⟨w1.heap.size, 0, none⟩), .pointer (some ⟨w.heap.size + 1, 0, none⟩), .pointer (some ⟨w1.heap.size + 1, 0, none⟩)])] 157)) w.heap.size (w.heap.size + 1 + 1) w1.heap.size (w.heap.size + 1) (w1.heap.size + 1) g cap (.slice pv vs.length cv) (.slice pc nc cc) (.func (.func fid) #[] cph) 194 :=
      ⟨k2.cell (kI.cell cV), k2.cell (kI.cell cH), by rw [World.cell?_alloc_lt (h := by simp)]; exact cell_newN rfl, k2.cell (kI.cell cC), cell_newN (by simp), by omega, by omega, by omega, by omega, by omega⟩
    have hF : Calls Tryz.prog 194 #[.int .i64 0, .pointer (some ⟨w.heap.size, 0, none⟩), .pointer (some ⟨w.heap.size + 1 + 1, 0, none⟩), .pointer (some ⟨w1.heap.size, 0, none⟩), .pointer (some ⟨w.heap.size + 1, 0, none⟩), .pointer (some ⟨w1.heap.size + 1, 0, none⟩)] ((w1.alloc (.cells #[.slice (some ⟨g, 0, none⟩) 6 cap] 35)).alloc (.cells #[(.func (.func 194) #[] #[.pointer (some ⟨w.heap.size, 0, none⟩), .pointer (some ⟨w.heap.size + 1 + 1, 0, none⟩), .pointer (some ⟨w1.heap.size, 0, none⟩), .pointer (some ⟨w.heap.size + 1, 0, none⟩), .pointer (some ⟨w1.heap.size + 1, 0, none⟩)])] 157)) (FillSays P cs vs idF w.heap.size g cap ((w1.alloc (.cells #[.slice (some ⟨g, 0, none⟩) 6 cap] 35)).alloc (.cells #[(.func (.func 194) #[] #[.pointer (some ⟨w.heap.size, 0, none⟩), .pointer (some ⟨w.heap.size + 1 + 1, 0, none⟩), .pointer (some ⟨w1.heap.size, 0, none⟩), .pointer (some ⟨w.heap.size + 1, 0, none⟩), .pointer (some ⟨w1.heap.size + 1, 0, none⟩)])] 157))) :=
      HF.out g hgw _ _ _ _ _ cap _ us idF ((k3.trans kI).trans k2) hFE (hrow1.keeps k2) (fun x hx => .inl hx)
    have HFF := hid hF; clear hF HF
    have HFE := hid hFE; clear hFE
    clear cV cC cH hI hrow1
    have k02 := (k3.trans kI).trans k2
    go_wp2_with fail
    refine HFF.out.mono ?_; rintro e w3 ⟨us3, σ3, rfl, hrow3, t3, hres, _, _⟩
    have k03 := k02.touchG t3 hgw
    have HE3 := hid (HFE.out.touch t3)
    obtain rfl := hres r hfc
    rw [hfc]
    have hb : ((some σ3 : Option (List Fm)).isSome) = true := rfl
    rw [hb]
    have hmem := (show ∀ x ∈ σ3, x ∈ idF ∨ x ∈ cs from fun x hx => firstC_mem P cs vs idF σ3 hfc x hx)
    have hl6 := hrow3.len
    have h40 : ∀ x ∈ σ3, x.enc.length ≤ 40 := fun x hx => by
      rcases hmem x hx with h | h
      · simp [idF] at h; rcases h with rfl | rfl | rfl | rfl | rfl | rfl <;> simp [Fm.enc]
      · exact HC40.out x h
    have H40 := hid h40
    clear hb hfc hres hmem h40
    have hci := HE3.out.ci
    have HR3 := hid hrow3; clear hrow3
    clear hst hcf2
    go_wp2_with fail
    clear hci
    go_loopw [10, 20] (fun o i' wr => ∃ k : Nat, k ≤ 6 ∧ i' = .int .i64 k ∧ OwnL wr w3.heap.size o ((σ3.take k).map Fm.enc) ∧ Keeps w3 wr) (fun _ i _ => 6 - (intOf i).toNat)
    case atStart => exact ⟨0, by omega, rfl, OwnL.nil _ _, Keeps.refl w3⟩
    case round =>
      obtain ⟨k, hk, rfl, hown, kw⟩ := hrel
      have hsz := kw.size
      by_cases hlt : k < 6
      · have hlt' : (k : Int) < 6 := by omega
        have hkl : k < σ3.length := by omega
        obtain ⟨b1, o1, u1, e1, hc1, hu1⟩ := (HR3.out.keeps kw).ndsL.get k (by simpa using hkl)
        cases e1
        rw [Nat.zero_add] at hc1
        rw [List.getElem_map] at hu1
        have h40 := H40.out _ (List.getElem_mem hkl)
        obtain ⟨pu, nu, cu, rfl⟩ := hu1.shape
        have HCL := hid (clone_any _ _ wr hu1 (Fm.enc_pos _) (by omega))
        have htk := hid (show σ3.take (k + 1) = σ3.take k ++ [σ3[k]] from List.take_succ_eq_append_getElem hkl)
        have hll : ((σ3.take k).map Fm.enc).length = k := by simp; omega
        clear hu1 h40
        go_wp2_with fail
        refine HCL.out.mono ?_; rintro e w4 ⟨v4, rfl, hv4, k4⟩
        obtain ⟨p2, n2, c2, rfl⟩ : ∃ p n c, v4 = .slice p n c := by obtain ⟨p, c, e, _⟩ := At.of_own hv4; exact ⟨p, _, c, e⟩
        have k5 := k4.alloc (.cells #[.slice p2 n2 c2] 24)
        have hv5 := hv4.keeps ((Keeps.refl w4).alloc (.cells #[.slice p2 n2 c2] 24))
        have hat := At.lit1 w4 (.slice p2 n2 c2) 24
        go_wp2_with (at_builtin; refine appL rfl _ _ rfl w3.heap.size _ ((σ3.take k).map Fm.enc) rfl wr hown k5 _ _ hv5 hsz _ _ rfl hat (by omega) ?_; intro v6 w6 hv6 hg6 hr6; have k6 : Keeps w3 w6 := (kw.trans k5).grown hg6 hr6)
        go_roundw
        case rel => exact ⟨k + 1, by omega, by go_num, by rw [htk.out, List.map_append]; exact hv6, k6⟩
        case measure => simp [intOf]; omega
      · obtain rfl : k = 6 := by omega
        go_wp2
        go_ret2
        rw [List.take_of_length_le (by omega)] at hown
        exact ⟨_, rfl, hown.mono k03.size, k03.trans kw⟩
end Go.Proofs.YtpbbfoliabgkpaaGreat
/- The reference's counting and choosing of candidate substitutions; errors of two lists. -/
namespace Go.Proofs.YtpbbfoliabgkpaaGreat
open Go.RowKit
--
set_option maxRecDepth 20000 in
set_option maxHeartbeats 1000000 in
theorem l31Count_any (vs : List Int) (cs : List (List Nd)) (v u : Value) (w : World) (hv : Ints w v vs) (hu : NdsL w u cs) (h6 : vs.length ≤ 6) (h8 : cs.length ≤ 8) :
    Calls Tryz.prog 197 #[v, u] w fun e w' => e = .returned (.int .i64 (cap601 cs.length vs.length : Nat)) ∧ w = w' := by
  obtain ⟨p, cap, rfl, hle, hmx, hx1, hx2⟩ := hv
  obtain ⟨q, dap, rfl, hle2, hmx2, hx3, hx4⟩ := hu
  unfold maxLen at hmx hmx2
  clear hx1 hx2 hx3 hx4
  generalize hm : cs.length = m at *
  generalize hn : vs.length = n at *
  go_enter Tryz.func197, Tryz.ntmps197
  go_wp2
  go_loop [5, 6] (fun c i' => ∃ k : Nat, k ≤ n ∧ i' = .int .i64 k ∧ c = .int .i64 (cap601 m k : Nat)) (fun _ i => n - (intOf i).toNat)
  case atStart => exact ⟨0, by omega, rfl, rfl⟩
  case round =>
    obtain ⟨k, hk, rfl, rfl⟩ := hrel
    by_cases hlt : k < n
    · have hlt' : (k : Int) < n := by omega
      have hc := cap601_eq m k
      have hs : cap601 m (k + 1) = min (cap601 m k * m) 601 := rfl
      have hc1 : cap601 m k ≤ 601 := by omega
      have hmul : cap601 m k * m ≤ 601 * 8 := Nat.mul_le_mul hc1 h8
      have HS := hid hs; clear hs hc
      generalize cap601 m k = c at *
      have hcm : (c : Int) * (m : Int) = ((c * m : Nat) : Int) := by push_cast; rfl
      have hmin : min ((c : Int) * (m : Int)) 601 = ((min (c * m) 601 : Nat) : Int) := by rw [hcm]; omega
      have hb0 : 0 ≤ (c : Int) * (m : Int) := by rw [hcm]; omega
      have hb1 : (c : Int) * (m : Int) ≤ 4808 := by rw [hcm]; omega
      have HMIN := hid hmin; clear hmin hcm
      go_wp2
      go_round
      case rel => exact ⟨k + 1, by omega, by go_num, by rw [HS.out, ← HMIN.out]⟩
      case measure => simp [intOf]; omega
    · obtain rfl : k = n := by omega
      have hlt' : ¬ (k : Int) < k := by omega
      go_wp2
      go_ret
      exact ⟨rfl, rfl⟩
/-- the first error of two in the order of invalid ones and those that are not plain -/
def bothE (x y : Int) : Int := if x = 1 ∨ y = 1 then 1 else max x y
theorem bothE_app (l m : List (List Nd)) : bothE (plainErrs l) (plainErrs m) = plainErrs (l ++ m) := by
  unfold bothE plainErrs allFm allPlainL
  rw [List.any_append, List.any_append]
  cases l.any (fun x => !isFm x) <;> cases m.any (fun x => !isFm x) <;> cases l.any (fun x => !plainL x) <;> cases m.any (fun x => !plainL x) <;> simp <;> decide
theorem plainErrs_comm (l m : List (List Nd)) : plainErrs (l ++ m) = plainErrs (m ++ l) := by
  unfold plainErrs allFm allPlainL
  rw [List.any_append, List.any_append, List.any_append, List.any_append, Bool.or_comm, Bool.or_comm (l.any fun x => !plainL x)]
--
set_option maxRecDepth 20000 in
theorem l31Both_two (x y : Int) (w : World) (hx : x = 0 ∨ x = 1 ∨ x = 5) (hy : y = 0 ∨ y = 1 ∨ y = 5) : Calls Tryz.prog 82 #[.int .i64 x, .int .i64 y] w fun e w' => e = .returned (.int .i64 (bothE x y)) ∧ w = w' := by
  rcases hx with rfl | rfl | rfl <;> rcases hy with rfl | rfl | rfl
  all_goals
    go_enter Tryz.func82, Tryz.ntmps82
    go_wp2
    go_ret
    exact ⟨rfl, rfl⟩
--
set_option maxRecDepth 20000 in
set_option maxHeartbeats 4000000 in
theorem l31Choice_any (vs : List Int) (cs : List Fm) (n0 : Nat) (v u : Value) (w : World) (hv : Ints w v vs) (hu : NdsL w u (cs.map Fm.enc)) (hvs : ∀ x ∈ vs, ∃ k : Nat, k < 6 ∧ x = k) (hvl : vs.length ≤ 6) (hc8 : cs.length ≤ 8)
    (hcp : 0 < vs.length → 0 < cs.length) (hn : n0 ≤ 1000) (hcl : ∀ c ∈ cs, c.enc.length ≤ 40) : Calls Tryz.prog 198 #[v, u, .int .i64 n0] w (RetL w ((pickC cs vs.reverse n0 idF).map Fm.enc)) := by
  have hv0 := hv
  obtain ⟨pv, cv, rfl, hlv, hmv, _, _⟩ := hv
  obtain ⟨pc, nc, cc, rfl⟩ := NdsL.shapeL hu
  obtain ⟨hnc, hncc, hmc⟩ : nc = (cs.map Fm.enc).length ∧ nc ≤ cc ∧ cc ≤ maxLen := by obtain ⟨_, _, e, h1, h2, _⟩ := hu; cases e; exact ⟨rfl, h1, h2⟩
  rw [List.length_map] at hnc
  subst hnc
  unfold maxLen at hmv hmc
  have HV := hid hvs; clear hvs
  have HC := hid hcl; clear hcl
  have HP := hid hcp; clear hcp
  go_enter Tryz.func198, Tryz.ntmps198
  go_wp2_with fail
  refine (l03Self_any w).mono ?_; rintro e w1 ⟨vI, rfl, hI, kI⟩
  obtain ⟨g, cap, rfl, hg0, hg1⟩ := hI.shape (by rw [idL_len]; omega)
  rw [idL_len] at hI ⊢
  rw [idF_enc] at hI
  go_wp2_with fail
  go_loopw [2, 9] (fun n' i' wr => ∃ (t num : Nat) (σ : List Fm), t ≤ vs.length ∧ i' = .int .i64 ((vs.length : Int) - 1 - t) ∧ n' = .int .i64 num ∧ num ≤ 1000 ∧ σ.length = 6 ∧ OwnL wr w.heap.size (.slice (some ⟨g, 0, none⟩) 6 cap) (σ.map Fm.enc) ∧ Hid (pickC cs (vs.reverse.drop t) num σ = pickC cs vs.reverse n0 idF) ∧ Keeps w wr) (fun _ i _ => (intOf i + 1).toNat)
  case atStart => exact ⟨0, n0, idF, by omega, by first | rfl | go_num, rfl, hn, rfl, hI, rfl, kI⟩
  case round =>
    obtain ⟨t, num, σ, ht, rfl, rfl, hnum, hσ, hI, hpk, kw⟩ := hrel
    by_cases hlt : t < vs.length
    · obtain ⟨q, hq⟩ : ∃ q : Nat, q = vs.length - 1 - t := ⟨_, rfl⟩
      have hqi : (vs.length : Int) - 1 - t = (q : Int) := by omega
      have hql : q < vs.length := by omega
      have hqt : q + t + 1 = vs.length := by omega
      have hql' : (q : Int) < vs.length := by omega
      have hq0 : (0 : Int) ≤ q := by omega
      have hcpos := HP.out (by omega)
      have hr : num % cs.length < cs.length := Nat.mod_lt _ hcpos
      obtain ⟨x, hx6, hx⟩ := HV.out vs[q] (List.getElem_mem hql)
      have hdrop : vs.reverse.drop t = (x : Int) :: vs.reverse.drop (t + 1) := by
        rw [List.drop_eq_getElem_cons (by simpa using hlt), List.getElem_reverse, ← hx]
        simp only [hq]
      have hpk2 : pickC cs (vs.reverse.drop (t + 1)) (num / cs.length) (σ.set x cs[num % cs.length]) = pickC cs vs.reverse n0 idF := by
        rw [← hpk, hdrop]
        simp only [pickC, List.getElem?_eq_getElem hr, Int.toNat_natCast]
      have HPK := hid hpk2; clear hpk hpk2 hdrop
      obtain ⟨b1, o1, e1, hc1⟩ : ∃ b off, pv = some ⟨b, off, none⟩ ∧ wr.cell? ⟨b, off + q, none⟩ = some (.int .i64 vs[q]) := by
        obtain ⟨_, _, e, _, _, hat, _⟩ := hv0.keeps kw
        cases e
        exact hat.int q hql
      subst e1
      rw [hx] at hc1
      obtain ⟨b2, o2, u2, rfl, hc2, hu2⟩ := (hu.keeps kw).get (num % cs.length) (by simpa using hr)
      rw [List.getElem_map] at hu2
      obtain ⟨pu, nu, cu, rfl⟩ := hu2.shape
      have kd := (Keeps.refl wr).drew
      have hcd1 := kd.cell hc1
      have hcd2 := kd.cell hc2
      have hlen40 := HC.out cs[num % cs.length] (List.getElem_mem hr)
      have HO := hid (l02Own_any cs[num % cs.length].enc _ _ (hu2.keeps kd) (by omega))
      have hw0 := kw.size
      have hlm : (σ.map Fm.enc).length = 6 := by rw [List.length_map, hσ]
      have hx0 : (0 : Int) ≤ x := by omega
      have hx6' : (x : Int) < 6 := by omega
      have hmod : Int.tmod (num : Int) (cs.length : Int) = ((num % cs.length : Nat) : Int) := by rw [Int.tmod_eq_emod_of_nonneg (by omega)]; rfl
      have hdiv : Int.tdiv (num : Int) (cs.length : Int) = ((num / cs.length : Nat) : Int) := by rw [Int.tdiv_eq_ediv_of_nonneg (by omega)]; rfl
      have hr' : ((num % cs.length : Nat) : Int) < cs.length := by omega
      have hr0 : (0 : Int) ≤ ((num % cs.length : Nat) : Int) := by omega
      have hr2 : (num : Int) % (cs.length : Int) < cs.length := Int.emod_lt_of_pos _ (by omega)
      have hr3 : 0 ≤ (num : Int) % (cs.length : Int) := Int.emod_nonneg _ (by omega)
      have htn : ((num : Int) % (cs.length : Int)).toNat = num % cs.length := rfl
      have hcz : ¬ cs = [] := by intro e; rw [e] at hcpos; simp at hcpos
      have hw64 : wrap64 ((num : Int) / (cs.length : Int)) = ((num / cs.length : Nat) : Int) := by
        have h1 : (num : Int) / (cs.length : Int) = ((num / cs.length : Nat) : Int) := rfl
        have h2 : num / cs.length ≤ 1000 := Nat.le_trans (Nat.div_le_self _ _) hnum
        rw [h1]; generalize num / cs.length = dd at h2 ⊢; unfold wrap64; omega
      have HW64 := hid hw64; clear hw64
      have hdl : num / cs.length ≤ 1000 := Nat.le_trans (Nat.div_le_self _ _) hnum
      have hblk : b1 < w.heap.size := by
        obtain ⟨_, _, e, _, _, hat, _⟩ := hv0
        cases e
        obtain ⟨_, _, e, hh⟩ := hat.int q hql
        cases e
        exact World.block_lt_of_cell? _ _ hh
      have hblk2 : b2 < w.heap.size := by
        obtain ⟨_, _, _, e, hh, _⟩ := hu.get (num % cs.length) (by simpa using hr)
        cases e
        exact World.block_lt_of_cell? _ _ hh
      rw [hqi]
      clear hqi hx hq hu2
      have hne : ∀ (b : Nat), b < w.heap.size → some b ≠ some g := fun b hb e => by cases e; omega
      have hb1 := hne b1 hblk
      have hb2 := hne b2 hblk2
      clear hne
      go_wp2_with fail
      go_region_held3 (fun w' => w'.cell? ⟨b1, o1 + q, none⟩ = some (.int .i64 x) ∧ w'.cell? ⟨b2, o2 + num % cs.length, none⟩ = some (.slice pu nu cu)) (first | exact ⟨hcd1, hcd2⟩ | exact ⟨he1, he2⟩ | exact ⟨hf1, hf2⟩) (first
        | (go_at_call 251; refine HO.out.mono ?_; rintro e w5 ⟨v5, rfl, hv5, k5⟩; have he1 := k5.cell hcd1; have he2 := k5.cell hcd2; have k45 := kd.trans k5; obtain ⟨g', cap', c5, e5, hg2, hg3, hcg5, hf5, hI5, gr5⟩ := hI.store k45 (hv5.mono (by simp)) hw0 x (by rw [hlm]; omega); rw [hlm] at e5; cases e5; obtain ⟨p5, n5, q5, rfl⟩ : ∃ p n c, v5 = .slice p n c := (by obtain ⟨p, c, e, _⟩ := At.of_own hv5; exact ⟨p, _, c, e⟩); have hf1 := World.grownBy.cell gr5 he1 hb1; have hf2 := World.grownBy.cell gr5 he2 hb2))
      go_wp2_with fail
      go_roundw
      case rel =>
        refine ⟨t + 1, num / cs.length, σ.set x cs[num % cs.length], by omega, by go_num, by first | rfl | (rw [HW64.out]), hdl, by simp [hσ], ?_, HPK.out, (kw.trans k45).grown gr5 (fun j hj => by cases hj; exact hg2)⟩
        rw [List.map_set]; exact hI5
      case measure => (simp [intOf]; try omega)
    · obtain rfl : t = vs.length := by omega
      have hneg : (vs.length : Int) - 1 - vs.length = -1 := by omega
      rw [hneg]
      have hp := hpk
      rw [List.drop_eq_nil_of_le (by simp)] at hp
      have hp2 := hid (show σ = pickC cs vs.reverse n0 idF from hp)
      go_wp2_with fail
      go_ret
      exact ⟨_, rfl, by rw [← hp2.out]; exact hI, kw⟩
end Go.Proofs.YtpbbfoliabgkpaaGreat
/- The map of what is known: look-up and store, in plain words; worlds in which one map alone turns. -/
namespace Go.Proofs.YtpbbfoliabgkpaaGreat
open Go.RowKit Go.MapKept
/-- one map may turn: all that can be read stays -/
def Turns (m : Nat) (w w' : World) : Prop := w.grownBy w' (some m) ∧ (∀ p v, w.cell? p = some v → w'.cell? p = some v)
theorem Turns.trans {m : Nat} {a b c : World} (h : Turns m a b) (k : Turns m b c) : Turns m a c := ⟨grown_trans h.1 k.1, fun p v hc => k.2 p v (h.2 p v hc)⟩
theorem Turns.ofKeeps {m : Nat} {a b : World} (h : Keeps a b) : Turns m a b := ⟨⟨h.os, h.tape, h.output, h.size, fun _k hk _ => h.block hk⟩, fun _ _ hc => h.cell hc⟩
theorem Turns.refl (m : Nat) (w : World) : Turns m w w := Turns.ofKeeps (Keeps.refl w)
theorem Turns.keeps {m : Nat} {a b : World} (h : Turns m a b) {c : World} (hm : c.heap.size ≤ m) (k : Keeps c a) : Keeps c b := k.grown h.1 (by rintro _ ⟨⟩; exact hm)
theorem Turns.size {m : Nat} {a b : World} (h : Turns m a b) : a.heap.size ≤ b.heap.size := h.1.size
theorem At.turns {m : Nat} {w w' : World} {p : Option Addr} {vs : List Value} (h : At w p vs) (k : Turns m w w') : At w' p vs := fun j hj => by
  obtain ⟨b, off, hp, hc⟩ := h j hj
  exact ⟨b, off, hp, k.2 _ _ hc⟩
theorem Nds.turns {m : Nat} {w w' : World} {v : Value} {a : List Nd} (h : Nds w v a) (k : Turns m w w') : Nds w' v a := by
  obtain ⟨p, cap, hv, h1, h2, h3, h4⟩ := h
  exact ⟨p, cap, hv, h1, h2, h3.turns k, h4⟩
theorem SlC.turns {m : Nat} {α : Type} {sz : Nat} {R : World → (Nat → Value) → α → Prop} (hR : ∀ w w' f x, Turns m w w' → R w f x → R w' f x) {w w' : World} {v : Value} {xs : List α} (h : SlC sz R w v xs) (k : Turns m w w') : SlC sz R w' v xs := by
  obtain ⟨p, cap, hv, h1, h2, h3, h4⟩ := h
  refine ⟨p, cap, hv, h1, h2, h3, fun i hi => ?_⟩
  obtain ⟨b, off, f, hp, hc, hr⟩ := h4 i hi
  exact ⟨b, off, f, hp, fun c hcs => k.2 _ _ (hc c hcs), hR _ _ _ _ k hr⟩
theorem NdsL.turns {m : Nat} {w w' : World} {v : Value} {xs : List (List Nd)} (h : NdsL w v xs) (k : Turns m w w') : NdsL w' v xs :=
  SlC.turns (R := fun w f x => Nds w (f 0) x) (fun _ _ _ _ k h => Nds.turns h k) h k
theorem Strs.turns {m : Nat} {w w' : World} {v : Value} {ss : List ByteArray} (h : Strs w v ss) (k : Turns m w w') : Strs w' v ss :=
  SlC.turns (R := fun _ f (s : ByteArray) => f 0 = .string s) (fun _ _ _ _ _ h => h) h k
/-- block m is a map of answers, each of which is right -/
def Ans (w : World) (m : Nat) (S : ByteArray → Bool → Prop) : Prop := ∃ es clock, w.heap[m]? = some (.map es clock) ∧ ∀ x ∈ es.toList, ∃ s b, x.key = .string s ∧ x.val = .bool b ∧ S s b
theorem Ans.lt {w : World} {m : Nat} {S : ByteArray → Bool → Prop} (h : Ans w m S) : m < w.heap.size := by
  obtain ⟨es, clock, hb, _⟩ := h
  exact (Array.getElem?_eq_some_iff.1 hb).1
theorem Ans.keeps {w w' : World} {m : Nat} {S : ByteArray → Bool → Prop} (h : Ans w m S) (k : Keeps w w') : Ans w' m S := by
  have hl := h.lt
  obtain ⟨es, clock, hb, he⟩ := h
  exact ⟨es, clock, (k.block hl).trans hb, he⟩
theorem Ans.made (w : World) (S : ByteArray → Bool → Prop) : Ans (w.alloc (.map #[] 0)) w.heap.size S := ⟨#[], 0, (MapKept.heap_alloc w _).1, by simp⟩
section
variable {P : Program} {w : World} {t k e : TypeId} {m : Nat} {S : ByteArray → Bool → Prop} (ht : P.underlying t = some (.map k e)) (hk : P.underlying k = some .string)
include ht hk
theorem Ans.look (h : Ans w m S) (hz : (zeroValue e).run P w = .ok (.bool false) w) (s : ByteArray) :
    ∃ b ok, (Instr.lookup t (.map (some m)) (.string s) true).run P w = .ok (.tuple #[.bool b, .bool ok]) w ∧ (ok = true → S s b) := by
  obtain ⟨es, clock, hb, he⟩ := h
  have hik : IsKey .string (.string s) := trivial
  have hks : ∀ x ∈ es.toList, IsKey .string x.key := fun x hx => by obtain ⟨s', _, h1, _⟩ := he x hx; rw [h1]; trivial
  rcases findNow_spec hik es.toList 0 hks with ⟨h1, _⟩ | ⟨j, x, h1, h2, h3⟩
  · refine ⟨false, false, ?_, fun h => by cases h⟩
    simp [Instr.lookup, run_underlying ht, MapKept.run_getObj_map hb, run_checkKey hk hik, run_findKey hk h1, hz, Result.andThen]
  · have hx : x ∈ es.toList := List.mem_of_getElem? h2
    obtain ⟨s', b, g1, g2, g3⟩ := he x hx
    rw [h3] at g1
    cases g1
    refine ⟨b, true, ?_, fun _ => g3⟩
    simp [Instr.lookup, run_underlying ht, MapKept.run_getObj_map hb, run_checkKey hk hik, run_findKey hk h1, g2, Result.andThen]
theorem Ans.put (h : Ans w m S) (s : ByteArray) (b : Bool) (hS : S s b) :
    ∃ w', (Instr.mapUpdate t (.map (some m)) (.string s) (.bool b)).run P w = .ok () w' ∧ Ans w' m S ∧ Turns m w w' := by
  obtain ⟨es, clock, hb, he⟩ := h
  have hik : IsKey .string (.string s) := trivial
  have hks : ∀ x ∈ es.toList, IsKey .string x.key := fun x hx => by obtain ⟨s', _, h1, _⟩ := he x hx; rw [h1]; trivial
  have hrd : ∀ es' clock', Turns m w { w with heap := w.heap.setIfInBounds m (.map es' clock') } := fun es' clock' => by
    refine ⟨⟨rfl, rfl, rfl, by simp, fun k _ hk => ?_⟩, fun p v hc => ?_⟩
    · exact (heap_set hb).2 k (fun e => hk (by rw [e]))
    · have hne : p.block ≠ m := by
        rintro rfl
        simp [World.cell?, hb] at hc
      simp only [World.cell?] at hc ⊢
      rw [(heap_set hb).2 p.block hne]
      exact hc
  rcases findNow_spec hik es.toList 0 hks with ⟨h1, _⟩ | ⟨j, x, h1, h2, h3⟩
  · refine ⟨_, by simp [Instr.mapUpdate, run_underlying ht, MapKept.run_getObj_map hb, run_checkKey hk hik, run_findKey hk h1, MapKept.run_setObj_map _ hb, Result.andThen]; rfl, ⟨_, _, (heap_set hb).1, ?_⟩, hrd _ _⟩
    intro x hx
    simp only [Array.toList_push, List.mem_append, List.mem_singleton] at hx
    rcases hx with hx | rfl
    · exact he x hx
    · exact ⟨s, b, rfl, rfl, hS⟩
  · have hj : es[j]? = some x := by simpa using h2
    refine ⟨_, by simp [Instr.mapUpdate, run_underlying ht, MapKept.run_getObj_map hb, run_checkKey hk hik, run_findKey hk h1, hj, h3, run_keyThatStays hik, MapKept.run_setObj_map _ hb, Result.andThen]; rfl, ⟨_, _, (heap_set hb).1, ?_⟩, hrd _ _⟩
    intro y hy
    obtain ⟨i, hi⟩ := List.getElem?_of_mem hy
    simp only [Array.getElem?_toList, Array.getElem?_modify] at hi
    by_cases hij : j = i
    · subst hij
      simp [hj] at hi
      subst hi
      exact ⟨s, b, by simp, rfl, hS⟩
    · simp [hij] at hi
      exact he y (List.mem_of_getElem? (by simpa using hi))
theorem wpList_ans_look {ops : Array Oper} {rest : List Oper} {o : Oper} {a : Act} {Q : Exit → Act → World → Prop} (hg : o.guard = none) (x y : Operand) (hop : o.op = Op.lookup t x y true)
    (hz : (zeroValue e).run P w = .ok (.bool false) w) (hx : a.eval x = .map (some m)) (h : Ans w m S) (s : ByteArray) (hy : a.eval y = .string s)
    (hK : ∀ b ok, (ok = true → S s b) → wpList P ops Q rest (a.put o.dst (.tuple #[.bool b, .bool ok])) w) : wpList P ops Q (o :: rest) a w := by
  refine wpList_plain hg fun K' hK' => ?_
  obtain ⟨b, ok, hrun, hv⟩ := h.look ht hk hz s
  unfold Oper.wp
  simp [execOp, hop, hx, hy, hrun, Result.andThen]
  exact hK' _ _ (hK b ok hv)
theorem wpList_ans_put {ops : Array Oper} {rest : List Oper} {o : Oper} {a : Act} {Q : Exit → Act → World → Prop} (hg : o.guard = none) (x y z : Operand) (hop : o.op = Op.mapUpdate t x y z)
    (hx : a.eval x = .map (some m)) (h : Ans w m S) (s : ByteArray) (hy : a.eval y = .string s) (b : Bool) (hz : a.eval z = .bool b) (hS : S s b)
    (hK : ∀ w', Ans w' m S → Turns m w w' → wpList P ops Q rest (a.put o.dst undef) w') : wpList P ops Q (o :: rest) a w := by
  refine wpList_plain hg fun K' hK' => ?_
  obtain ⟨w', hrun, r1, r2⟩ := h.put ht hk s b hS
  unfold Oper.wp
  simp [execOp, hop, hx, hy, hz, hrun, Result.andThen]
  exact hK' _ _ (hK w' r1 r2)
end
end Go.Proofs.YtpbbfoliabgkpaaGreat
/- The texts of the parts of a formula (program side). -/
namespace Go.Proofs.YtpbbfoliabgkpaaGreat
open Go.RowKit
def partsL : Fm → List Fm
  | .and x y => [x, y]
  | .or x y => [x, y]
  | .imp x y => [x, y]
  | .box x => [x]
  | .dia x => [x]
  | _ => []
theorem NdsL.noneN (w : World) : NdsL w (.slice Option.none 0 0) [] := ⟨Option.none, 0, rfl, Nat.le_refl _, by simp [maxLen], by simp, fun i hi => by simp at hi⟩
theorem parts_any (t : Fm) (v : Value) (w : World) (hv : Nds w v t.enc) :
    Calls Tryz.prog 339 #[v] w fun e w' => ∃ u, e = .returned u ∧ NdsL w' u ((partsL t).map Fm.enc) ∧ Keeps w w' := by
  have hv0 := hv
  obtain ⟨b, off, n, cap, rfl, h0, h1, h2, h3, hc, _⟩ := hv.root
  cases t with
  | var _ =>
    replace hc : w.cell? ⟨b, off, none⟩ = some (.int .i64 0) := hc
    have hp := partsOf_any 0 w
    rw [show partsOf 0 = 0 from rfl] at hp
    go_enter Tryz.func339, Tryz.ntmps339
    go_wp2_with (go_at_call 233; refine hp.mono ?_; rintro e w' ⟨rfl, rfl⟩)
    go_ret
    exact ⟨_, rfl, NdsL.noneN _, Keeps.refl _⟩
  | fls =>
    replace hc : w.cell? ⟨b, off, none⟩ = some (.int .i64 1) := hc
    have hp := partsOf_any 1 w
    rw [show partsOf 1 = 0 from rfl] at hp
    go_enter Tryz.func339, Tryz.ntmps339
    go_wp2_with (go_at_call 233; refine hp.mono ?_; rintro e w' ⟨rfl, rfl⟩)
    go_ret
    exact ⟨_, rfl, NdsL.noneN _, Keeps.refl _⟩
  | and x y =>
    replace hc : w.cell? ⟨b, off, none⟩ = some (.int .i64 2) := hc
    have hp := partsOf_any 2 w
    rw [show partsOf 2 = 2 from rfl] at hp
    go_enter Tryz.func339, Tryz.ntmps339
    go_wp2_with fail
    refine hp.mono ?_; rintro e w' ⟨rfl, rfl⟩
    go_wp2_with fail
    refine (first_any _ _ x y.enc _ _ hv0 rfl).mono ?_; rintro e w' ⟨v1, rfl, hv1, rfl⟩
    go_wp2_with fail
    refine (second_any _ _ x y _ _ hv0 rfl).mono ?_; rintro e w' ⟨v2, rfl, hv2, rfl⟩
    obtain ⟨p1, n1, c1, rfl⟩ := hv1.shape
    obtain ⟨p2, n2, c2, rfl⟩ := hv2.shape
    go_wp2_with fail
    go_ret
    exact ⟨_, rfl, NdsL.lit2 hv1 hv2, (Keeps.refl w).alloc _⟩
  | or x y =>
    replace hc : w.cell? ⟨b, off, none⟩ = some (.int .i64 3) := hc
    have hp := partsOf_any 3 w
    rw [show partsOf 3 = 2 from rfl] at hp
    go_enter Tryz.func339, Tryz.ntmps339
    go_wp2_with fail
    refine hp.mono ?_; rintro e w' ⟨rfl, rfl⟩
    go_wp2_with fail
    refine (first_any _ _ x y.enc _ _ hv0 rfl).mono ?_; rintro e w' ⟨v1, rfl, hv1, rfl⟩
    go_wp2_with fail
    refine (second_any _ _ x y _ _ hv0 rfl).mono ?_; rintro e w' ⟨v2, rfl, hv2, rfl⟩
    obtain ⟨p1, n1, c1, rfl⟩ := hv1.shape
    obtain ⟨p2, n2, c2, rfl⟩ := hv2.shape
    go_wp2_with fail
    go_ret
    exact ⟨_, rfl, NdsL.lit2 hv1 hv2, (Keeps.refl w).alloc _⟩
  | imp x y =>
    replace hc : w.cell? ⟨b, off, none⟩ = some (.int .i64 4) := hc
    have hp := partsOf_any 4 w
    rw [show partsOf 4 = 2 from rfl] at hp
    go_enter Tryz.func339, Tryz.ntmps339
    go_wp2_with fail
    refine hp.mono ?_; rintro e w' ⟨rfl, rfl⟩
    go_wp2_with fail
    refine (first_any _ _ x y.enc _ _ hv0 rfl).mono ?_; rintro e w' ⟨v1, rfl, hv1, rfl⟩
    go_wp2_with fail
    refine (second_any _ _ x y _ _ hv0 rfl).mono ?_; rintro e w' ⟨v2, rfl, hv2, rfl⟩
    obtain ⟨p1, n1, c1, rfl⟩ := hv1.shape
    obtain ⟨p2, n2, c2, rfl⟩ := hv2.shape
    go_wp2_with fail
    go_ret
    exact ⟨_, rfl, NdsL.lit2 hv1 hv2, (Keeps.refl w).alloc _⟩
  | box x =>
    replace hc : w.cell? ⟨b, off, none⟩ = some (.int .i64 5) := hc
    have hp := partsOf_any 5 w
    rw [show partsOf 5 = 1 from rfl] at hp
    go_enter Tryz.func339, Tryz.ntmps339
    go_wp2_with fail
    refine hp.mono ?_; rintro e w' ⟨rfl, rfl⟩
    go_wp2_with fail
    refine (first_any _ ⟨5, 0⟩ x [] _ _ hv0 (by simp [Fm.enc])).mono ?_; rintro e w' ⟨v1, rfl, hv1, rfl⟩
    obtain ⟨p1, n1, c1, rfl⟩ := hv1.shape
    go_wp2_with fail
    go_ret
    exact ⟨_, rfl, NdsL.lit1 hv1, (Keeps.refl w).alloc _⟩
  | dia x =>
    replace hc : w.cell? ⟨b, off, none⟩ = some (.int .i64 6) := hc
    have hp := partsOf_any 6 w
    rw [show partsOf 6 = 1 from rfl] at hp
    go_enter Tryz.func339, Tryz.ntmps339
    go_wp2_with fail
    refine hp.mono ?_; rintro e w' ⟨rfl, rfl⟩
    go_wp2_with fail
    refine (first_any _ ⟨6, 0⟩ x [] _ _ hv0 (by simp [Fm.enc])).mono ?_; rintro e w' ⟨v1, rfl, hv1, rfl⟩
    obtain ⟨p1, n1, c1, rfl⟩ := hv1.shape
    go_wp2_with fail
    go_ret
    exact ⟨_, rfl, NdsL.lit1 hv1, (Keeps.refl w).alloc _⟩
theorem partsL_wf {t : Fm} (h : t.wf) : ∀ x ∈ partsL t, x.wf := by
  cases t <;> simp [partsL, Fm.wf] at h ⊢ <;> first | exact h | (intro x hx; rcases hx with rfl | rfl <;> simp_all) | simp_all
theorem partsL_len (t : Fm) : ∀ x ∈ partsL t, x.enc.length ≤ t.enc.length := by
  cases t <;> simp [partsL, Fm.enc] <;> omega
theorem partsL_two (t : Fm) : (partsL t).length ≤ 2 := by cases t <;> simp [partsL]
set_option maxRecDepth 20000 in
theorem partTexts_any (t : Fm) (hw : t.wf) (hl : t.enc.length ≤ 100000000) (v : Value) (w : World) (hv : Nds w v t.enc) :
    Calls Tryz.prog 322 #[v] w fun e w' => ∃ u ss, e = .returned u ∧ OwnS w' w.heap.size u ss ∧ Txts ss (partsL t) ∧ Keeps w w' := by
  have hP := hid (parts_any t v w hv)
  have hwf := hid (partsL_wf hw)
  have hln := hid (partsL_len t)
  have h2 := partsL_two t
  generalize hg : partsL t = G at *
  clear hg
  go_enter Tryz.func322, Tryz.ntmps322
  go_wp2_with fail
  refine hP.out.mono ?_; rintro e w1 ⟨v1, rfl, hv1, k1⟩
  obtain ⟨p, m, cap, rfl⟩ := NdsL.shapeL hv1
  have hm : m = G.length := by obtain ⟨_, _, e, _⟩ := hv1; cases e; simp
  have HM := hid hm; clear hm
  have hm2 : m ≤ 2 := by have := HM.out; omega
  go_wp2
  go_loopw [3, 9] (fun r i' wr => ∃ k : Nat, k ≤ m ∧ i' = .int .i64 k ∧ (∃ ss, OwnS wr w1.heap.size r ss ∧ Txts ss (G.take k)) ∧ Keeps w1 wr) (fun _ i _ => m - (intOf i).toNat)
  case atStart => exact ⟨0, by omega, rfl, ⟨[], OwnS.nil _ _, rfl⟩, Keeps.refl _⟩
  case round =>
    obtain ⟨k, hk, rfl, ⟨ss, hss, htx⟩, kw⟩ := hrel
    by_cases hlt : k < m
    · have hkG : k < G.length := by have := HM.out; omega
      have hlt' : (k : Int) < m := by omega
      obtain ⟨b, off, u1, hp, hcell, hu1⟩ := (NdsL.keeps hv1 kw).get k (by simpa using hkG)
      replace hu1 : Nds wr u1 G[k].enc := by simpa using hu1
      subst hp
      have hT := hid (text_any G[k] (hwf.out _ (List.getElem_mem _)) (by have := hln.out G[k] (List.getElem_mem _); omega) u1 wr hu1)
      obtain ⟨q1, n1, c1, rfl⟩ := hu1.shape
      have hsl : ss.length ≤ 2 := by have := htx.length; simp at this; have := HM.out; omega
      have hsz := k1.size
      have hsz2 := kw.size
      go_wp2_with fail
      refine hT.out.mono ?_; rintro e w2 ⟨s, rfl, hs, k2⟩
      have hsz3 := k2.size
      go_wp2_with (at_builtin; refine appS rfl (.tmp 13) (.tmp 16) rfl w1.heap.size _ ss rfl ((hss.keeps k2).keeps ((Keeps.refl w2).alloc _)) _ [s] rfl (Strs.lit1 w2 s) (by simp; omega) (by simp; omega) ?_; intro v3 w3 hv3 hg3 hr3)
      go_roundw
      case rel => exact ⟨k + 1, by omega, by go_num, ⟨_, hv3, by rw [← List.take_append_getElem hkG]; exact htx.append (by simp [Txts, hs])⟩, (((kw.trans k2).alloc _).grown hg3 (fun q hq => by have := hr3 q hq; omega))⟩
      case measure => simp [intOf]; omega
    · go_wp2
      go_ret
      have hkm : k = G.length := by have := HM.out; omega
      subst hkm
      exact ⟨_, _, rfl, hss.mono k1.size, by rw [List.take_length] at htx; exact htx, k1.trans kw⟩
end Go.Proofs.YtpbbfoliabgkpaaGreat
