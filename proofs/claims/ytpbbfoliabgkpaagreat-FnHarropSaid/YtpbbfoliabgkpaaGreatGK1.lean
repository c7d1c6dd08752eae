/- The program's firstCandidate: rows that are shared and written, the closure that calls itself. -/
import Derived.Test.YtpbbfoliabgkpaaGreatGP3
import Derived.Test.YtpbbfoliabgkpaaGreatGV5
import Derived.Test.YtpbbfoliabgkpaaGreatGVE
import Derived.Test.YtpbbfoliabgkpaaGreatGM1
import Derived.Test.YtpbbfoliabgkpaaGreatGM2
import Derived.Deep.RegionHeld3
namespace Go.Proofs.YtpbbfoliabgkpaaGreat
open Go.RowKit
/-- the identical substitution, as formulas -/
def idF : List Fm := [.var 0, .var 1, .var 2, .var 3, .var 4, .var 5]
theorem idF_enc : idL 6 = idF.map Fm.enc := rfl
theorem idF_ok : OkL idF := by
  intro a ha
  simp [idF] at ha
  rcases ha with rfl | rfl | rfl | rfl | rfl | rfl <;> exact ⟨by simp [Fm.wf], rfl⟩
/-- a list of nodes that does not lie in a block -/
def Far (g : Nat) (w : World) (v : Value) (a : List Nd) : Prop := Nds w v a ∧ ∀ ad n c, v = .slice (some ad) n c → ad.block ≠ g
theorem Far.keeps {g : Nat} {w w' : World} {v : Value} {a : List Nd} (h : Far g w v a) (k : Keeps w w') : Far g w' v a := ⟨h.1.keeps k, h.2⟩
theorem Far.touch {g : Nat} {w w' : World} {v : Value} {a : List Nd} (h : Far g w v a) (k : Touch w w' (fun i => i = g)) : Far g w' v a := by
  obtain ⟨⟨p, cap, rfl, h1, h2, h3, h4⟩, hf⟩ := h
  refine ⟨⟨p, cap, rfl, h1, h2, fun j hj => ?_, h4⟩, hf⟩
  obtain ⟨b, off, hp, hc⟩ := h3 j hj
  subst hp
  exact ⟨b, off, rfl, by rw [(k.cell (World.block_lt_of_cell? _ _ hc) (hf ⟨b, off, none⟩ _ _ rfl)).1]; exact hc⟩
/-- what lies below a block does not lie in it -/
theorem Far.below {g : Nat} {w : World} {t : Fm} {v : Value} (h : Nds w v t.enc) (hg : w.heap.size ≤ g) : Far g w v t.enc := by
  refine ⟨h, fun ad n c e => ?_⟩
  obtain ⟨b, off, n', cap', e', _, _, _, _, hc, _⟩ := h.root
  rw [e'] at e
  cases e
  have := World.block_lt_of_cell? _ _ hc
  simp only at this ⊢
  omega
theorem Far.own {g B : Nat} {w : World} {v u : Value} {n : Nat} {vs : List Value} {a : List Nd} (h : OwnN w B v a) (ho : w.ownsRow B 24 1 u n vs) (hu : u.ownBlock = some g) (hl : a.length ≤ 2147483648) : Far g w v a := by
  refine ⟨h.nds hl, fun ad n c e => ?_⟩
  subst e
  obtain ⟨p, cap, e, _⟩ := At.of_own h
  intro hb
  have h2 : (Value.slice (some ad) n c).ownBlock = some g := by simp [Value.ownBlock, hb]
  exact type_ne ho h tyne hu h2
/-- the row of images: the call's own header, rows that are shared -/
def Row (w : World) (B g cap : Nat) (us : List Value) (σ : List Fm) : Prop :=
  w.ownsRow B 24 1 (.slice (some ⟨g, 0, none⟩) 6 cap) 6 us ∧ us.length = σ.length ∧ ∀ i (h1 : i < us.length) (h2 : i < σ.length), Far g w us[i] σ[i].enc
theorem Row.keeps {w w' : World} {B g cap : Nat} {us : List Value} {σ : List Fm} (h : Row w B g cap us σ) (k : Keeps w w') : Row w' B g cap us σ := ⟨own_keeps h.1 k, h.2.1, fun i h1 h2 => (h.2.2 i h1 h2).keeps k⟩
theorem Row.len {w : World} {B g cap : Nat} {us : List Value} {σ : List Fm} (h : Row w B g cap us σ) : σ.length = 6 := by
  have h1 := h.1.1
  have h2 := h.2.1
  omega
theorem Row.lt {w : World} {B g cap : Nat} {us : List Value} {σ : List Fm} (h : Row w B g cap us σ) : B ≤ g ∧ g < w.heap.size := World.ownsRow.lt h.1 g rfl
theorem Row.ndsL {w : World} {B g cap : Nat} {us : List Value} {σ : List Fm} (h : Row w B g cap us σ) : NdsL w (.slice (some ⟨g, 0, none⟩) 6 cap) (σ.map Fm.enc) := by
  have hl := h.len
  obtain ⟨p, cap', e, h1, h2, hat⟩ := At.of_own h.1
  cases e
  have := ndsL_of (w := w) (xs := σ.map Fm.enc) hat ⟨by rw [List.length_map]; exact h.2.1, fun i h1 h2 => by
    rw [List.getElem_map]; exact (h.2.2 i h1 (by simpa using h2)).1⟩ (by rw [List.length_map, hl]; exact h1) h2 (by rw [List.length_map, hl]; omega)
  rwa [List.length_map, hl] at this
theorem Row.store {w : World} {B g cap : Nat} {us : List Value} {σ : List Fm} (h : Row w B g cap us σ) (i : Nat) (hi : i < 6) {u : Value} {c : Fm} (hu : Far g w u c.enc) :
    (∃ c0, w.cell? ⟨g, i, none⟩ = some c0) ∧ w.frozen? ⟨g, i, none⟩ = false ∧ Row (w.setCell ⟨g, i, none⟩ u) B g cap (us.set i u) (σ.set i c) ∧ Touch w (w.setCell ⟨g, i, none⟩ u) (fun k => k = g) := by
  obtain ⟨ho, hl, hr⟩ := h
  have hst := ho.stored i u
  have hus : us.length = 6 := by have := ho.1; omega
  have ht : Touch w (w.setCell ⟨g, i, none⟩ u) (fun k => k = g) := (Touch.grown hst.2).mono (fun k e => by cases e; rfl)
  refine ⟨⟨us[i], by rw [ho.cellAt i (by omega)]; simp [hus, hi]⟩, ho.frozenAt i, ⟨by have := hst.1; exact this, by simp [hl], fun j h1 h2 => ?_⟩, ht⟩
  by_cases e : i = j
  · subst e; simpa using hu.touch ht
  · rw [List.getElem_set_ne e, List.getElem_set_ne e]
    exact (hr j (by simpa using h1) (by simpa using h2)).touch ht
theorem Keeps.touchG {a w w' : World} {g : Nat} (h : Keeps a w) (k : Touch w w' (fun i => i = g)) (hg : a.heap.size ≤ g) : Keeps a w' := h.touch k (fun i hi => by omega)
/-- what the closure captures -/
structure FEnv (w : World) (bv bh bi bc bf g cap : Nat) (vv vc hf : Value) (fid : FuncId) : Prop where
  cv : w.cell? ⟨bv, 0, none⟩ = some vv
  ch : w.cell? ⟨bh, 0, none⟩ = some hf
  ci : w.cell? ⟨bi, 0, none⟩ = some (.slice (some ⟨g, 0, none⟩) 6 cap)
  cc : w.cell? ⟨bc, 0, none⟩ = some vc
  cf : w.cell? ⟨bf, 0, none⟩ = some (.func (.func fid) #[] #[.pointer (some ⟨bv, 0, none⟩), .pointer (some ⟨bh, 0, none⟩), .pointer (some ⟨bi, 0, none⟩), .pointer (some ⟨bc, 0, none⟩), .pointer (some ⟨bf, 0, none⟩)])
  nv : bv ≠ g
  nh : bh ≠ g
  ni : bi ≠ g
  nc : bc ≠ g
  nf : bf ≠ g
theorem FEnv.touch {w w' : World} {bv bh bi bc bf g cap : Nat} {vv vc hf : Value} {fid : FuncId} (h : FEnv w bv bh bi bc bf g cap vv vc hf fid) (k : Touch w w' (fun i => i = g)) : FEnv w' bv bh bi bc bf g cap vv vc hf fid := by
  have mv : ∀ {b : Nat} {v : Value}, b ≠ g → w.cell? ⟨b, 0, none⟩ = some v → w'.cell? ⟨b, 0, none⟩ = some v := fun hb hc => by
    rw [(k.cell (World.block_lt_of_cell? _ _ hc) hb).1]; exact hc
  exact ⟨mv h.nv h.cv, mv h.nh h.ch, mv h.ni h.ci, mv h.nc h.cc, mv h.nf h.cf, h.nv, h.nh, h.ni, h.nc, h.nf⟩
theorem FEnv.drew {w : World} {bv bh bi bc bf g cap : Nat} {vv vc hf : Value} {fid : FuncId} (h : FEnv w bv bh bi bc bf g cap vv vc hf fid) : FEnv w.drew bv bh bi bc bf g cap vv vc hf fid := ⟨h.cv, h.ch, h.ci, h.cc, h.cf, h.nv, h.nh, h.ni, h.nc, h.nf⟩
/-- how a search from a place on answers -/
def FillSays (P : List Fm → Bool) (cs : List Fm) (vs : List Int) (σ : List Fm) (B g cap : Nat) (w : World) (e : Ending) (w' : World) : Prop :=
  ∃ us' σ', e = .returned (.bool (firstC P cs vs σ).isSome) ∧ Row w' B g cap us' σ' ∧ Touch w w' (fun i => i = g) ∧ (∀ r, firstC P cs vs σ = some r → σ' = r) ∧ Agree vs σ' σ ∧ ∀ x ∈ σ', x ∈ σ ∨ x ∈ cs
/-- what holds at each round of the loop over the candidates -/
def FRel (P : List Fm → Bool) (cs : List Fm) (rest : List Int) (x : Nat) (σ : List Fm) (w : World) (B g cap : Nat) (j : Nat) (wr : World) : Prop :=
  Touch w wr (fun i => i = g) ∧ ∃ us' σ', Row wr B g cap us' σ' ∧ Agree ((x : Int) :: rest) σ' σ ∧ (∀ y ∈ σ', y ∈ idF ∨ y ∈ cs) ∧ (∀ y ∈ σ', y ∈ σ ∨ y ∈ cs) ∧ (∀ t (ht : t < cs.length), t < j → firstC P cs rest (σ.set x cs[t]) = none)
--
theorem enters_fill : Enters 194 := fun _ _ => by kernel_rfl
set_option maxRecDepth 20000 in
set_option maxHeartbeats 4000000 in
theorem fill_any (P : List Fm → Bool) (vs : List Int) (cs : List Fm) (fid : FuncId) (cph : Array Value) (w0 : World) (vv vc : Value) (bv bh bi bc bf g cap : Nat)
    (hvv : Ints w0 vv vs) (hvc : NdsL w0 vc (cs.map Fm.enc)) (hvs : ∀ x ∈ vs, ∃ k : Nat, k < 6 ∧ x = k) (hg : w0.heap.size ≤ g) (hen : Enters fid) (hcl : cs.length ≤ 8) (_hvl : vs.length ≤ 6)
    (hh : ∀ σ v w1, Keeps w0 w1 → NdsL w1 v (σ.map Fm.enc) → σ.length = 6 → (∀ x ∈ σ, x ∈ idF ∨ x ∈ cs) → Calls Tryz.prog fid (#[v] ++ cph) w1 fun e w2 => e = .returned (.bool (P σ)) ∧ Keeps w1 w2) :
    ∀ m k, vs.length = k + m → ∀ w us σ, Keeps w0 w → FEnv w bv bh bi bc bf g cap vv vc (.func (.func fid) #[] cph) 194 → Row w w0.heap.size g cap us σ → (∀ x ∈ σ, x ∈ idF ∨ x ∈ cs) →
      Calls Tryz.prog 194 #[.int .i64 k, .pointer (some ⟨bv, 0, none⟩), .pointer (some ⟨bh, 0, none⟩), .pointer (some ⟨bi, 0, none⟩), .pointer (some ⟨bc, 0, none⟩), .pointer (some ⟨bf, 0, none⟩)] w (FillSays P cs (vs.drop k) σ w0.heap.size g cap w) := by
  intro m
  have HVV := hvv
  obtain ⟨pv, cv, rfl, hlv, hmv, _, _⟩ := hvv
  unfold maxLen at hmv
  obtain ⟨pc, nc, cc, rfl⟩ := NdsL.shapeL hvc
  obtain ⟨hnc, hncc, hmc⟩ := (show nc = (cs.map Fm.enc).length ∧ nc ≤ cc ∧ cc ≤ maxLen by obtain ⟨_, _, e, h1, h2, _⟩ := hvc; cases e; exact ⟨rfl, h1, h2⟩)
  rw [List.length_map] at hnc
  subst hnc
  unfold maxLen at hmc
  have HH := hid hh; clear hh
  have hcf' : ∀ args w, (callFunc fid args).run Tryz.prog w = .ok (.enter fid args) w := hen
  have hcf2 : ∀ args w, (callFunc 194 args).run Tryz.prog w = .ok (.enter 194 args) w := enters_fill
  clear hen
  induction m with
  | zero =>
    intro k hk w us σ kw he hrow hmem
    obtain rfl : k = vs.length := by omega
    clear hk
    have hnd := hrow.ndsL
    have hl := hrow.len
    have HR := hid hrow; clear hrow
    have HP := hid (HH.out σ _ w kw hnd hl hmem)
    obtain ⟨h1, h2, h3, h4, h5, _, _, _, _, _⟩ := he
    have HM := hid hmem; clear hmem hnd
    rw [List.drop_length]
    have hf : Hid ((firstC P cs [] σ).isSome = P σ) := by unfold Hid firstC; cases P σ <;> rfl
    have hfr : Hid (∀ r, firstC P cs [] σ = some r → σ = r) := by
      intro r h; unfold firstC at h; split at h
      · cases h; rfl
      · cases h
    go_enter Tryz.func194, Tryz.ntmps194
    go_wp2_with fail
    refine HP.out.mono ?_; rintro e w2 ⟨rfl, k2⟩
    go_wp2_with fail
    go_ret
    exact ⟨us, σ, ret_bool hf.out.symm, HR.out.keeps k2, Touch.of_keeps k2 _, hfr.out, Agree.refl _ _, fun x hx => .inl hx⟩
  | succ m ih =>
    intro k hk w us σ kw he hrow hmem
    have IH := hid ih; clear ih
    have hkl : k < vs.length := by omega
    have hkl' : ((k : Int) == (vs.length : Int)) = false := by simp; omega
    have hklt' : (k : Int) < vs.length := by omega
    obtain ⟨x, hx6, hx⟩ := hvs vs[k] (List.getElem_mem hkl)
    have hdrop : vs.drop k = (x : Int) :: vs.drop (k + 1) := by rw [List.drop_eq_getElem_cons hkl, hx]
    rw [hdrop]
    have HD := hid hdrop; clear hdrop
    have hnn : ∀ v ∈ vs.drop (k + 1), (0 : Int) ≤ v := fun v hv => by obtain ⟨s, _, rfl⟩ := hvs v (List.mem_of_mem_drop hv); omega
    have HNN := hid hnn; clear hnn
    have HR := hid hrow; clear hrow
    have HM := hid hmem; clear hmem
    have HE := hid he
    obtain ⟨e1, e2, e3, e4, e5, _, _, _, _, _⟩ := he
    have hk3 := hid (show vs.length = (k + 1) + m by omega); clear hk
    generalize hrest : vs.drop (k + 1) = rest at *
    have HRest := hid hrest; clear hrest
    go_enter Tryz.func194, Tryz.ntmps194
    go_wp2_with fail
    clear e1 e2 e3 e4 e5
    go_loopw [7, 19] (fun r i' wr => ∃ j : Nat, j ≤ cs.length ∧ i' = .int .i64 j ∧ r = .bool false ∧ FRel P cs rest x σ w w0.heap.size g cap j wr) (fun _ i _ => cs.length - (intOf i).toNat)
    case atStart => exact ⟨0, by omega, rfl, rfl, Touch.refl _ _, us, σ, HR.out, Agree.refl _ _, HM.out, (fun y hy => .inl hy), (fun t ht h => by omega)⟩
    case round =>
      obtain ⟨j, hj, rfl, rfl, tw, us', σ', hrow, hag, hmem, hmem2, hnone⟩ := hrel
      clear HR
      have HN := hid hnone; clear hnone
      have HA := hid hag; clear hag
      have HM2 := hid hmem2; clear hmem2
      have HMr := hid hmem; clear hmem
      by_cases hlt : j < cs.length
      · have hlt' : (j : Int) < cs.length := by omega
        have kwr := kw.touchG tw hg
        obtain ⟨b1, o1, u1, rfl, hc1, hu1⟩ := (NdsL.keeps hvc kwr).get j (by simpa using hlt)
        rw [List.getElem_map] at hu1
        have hfar : Far g wr u1 cs[j].enc := by
          obtain ⟨_, _, u0, e, hc0, hu0⟩ := hvc.get j (by simpa using hlt)
          cases e
          rw [List.getElem_map] at hu0
          have := kwr.cell hc0
          rw [hc1] at this
          cases this
          exact (Far.below hu0 hg).keeps kwr
        obtain ⟨pu, nu, cu, rfl⟩ := hu1.shape
        obtain ⟨b2, o2, e2', hc2⟩ : ∃ b off, pv = some ⟨b, off, none⟩ ∧ wr.cell? ⟨b, off + k, none⟩ = some (.int .i64 vs[k]) := by
          obtain ⟨_, _, e, _, _, hat, _⟩ := HVV.keeps kwr
          cases e
          exact hat.int k hkl
        subst e2'
        rw [hx] at hc2
        have he := HE.out.touch tw
        obtain ⟨⟨c0, hc0⟩, hfz, hrow2, t2⟩ := (hrow.keeps (Keeps.refl wr).drew).store x hx6 (hfar.keeps (Keeps.refl wr).drew)
        have he2 := he.drew.touch t2
        have hmem3 : ∀ y ∈ σ'.set x cs[j], y ∈ idF ∨ y ∈ cs := fun y hy => by
          rcases List.mem_or_eq_of_mem_set hy with h | h
          · exact HMr.out y h
          · exact .inr (h ▸ List.getElem_mem hlt)
        have hI := IH.out (k + 1) hk3.out _ _ _ ((kwr.drew).touchG t2 hg) he2 hrow2 hmem3
        have hcast : ((k + 1 : Nat) : Int) = (k : Int) + 1 := by omega
        rw [hcast, HRest.out] at hI
        have HI := hid hI
        have hagr := HA.out
        have hfe := firstC_agree P cs rest HNN.out _ _ (hagr.set cs[j] (by omega))
        rw [Int.toNat_natCast] at hfe
        have HFE := hid hfe
        have hx0 : (0 : Int) ≤ x := by omega
        have hx6' : (x : Int) < 6 := by omega
        obtain ⟨e1, e2, e3, e4, e5, n1, n2, n3, n4, n5⟩ := he
        obtain ⟨f1, f2, f3, f4, f5, _, _, _, _, _⟩ := he2
        have TW := hid (tw.trans ((Touch.of_keeps (Keeps.refl wr).drew _).trans t2))
        clear hI hfe hagr hrow2 hrow hmem3 hfar hu1 t2 f1 f2 f3 f4
        have hAg : ∀ σ3 : List Fm, Agree rest σ3 (σ'.set x cs[j]) → Agree ((x : Int) :: rest) σ3 σ := fun σ3 h =>
          ((h.mono (fun y hy => List.mem_cons_of_mem _ hy)).trans (by have := Agree.setL (vs := rest) σ' cs[j] (v := (x : Int)) (by omega); rwa [Int.toNat_natCast] at this)).trans HA.out
        have hMe : ∀ σ3 : List Fm, (∀ y ∈ σ3, y ∈ σ'.set x cs[j] ∨ y ∈ cs) → ∀ y ∈ σ3, y ∈ σ ∨ y ∈ cs := fun σ3 h y hy => by
          rcases h y hy with h1 | h1
          · rcases List.mem_or_eq_of_mem_set h1 with h2 | h2
            · exact HM2.out y h2
            · exact .inr (h2 ▸ List.getElem_mem hlt)
          · exact .inr h1
        have HAG := hid hAg
        have HME := hid hMe
        clear hAg hMe
        go_wp2_with fail
        go_region
        go_wp2_with fail
        refine HI.out.mono ?_; rintro e w3 ⟨us3, σ3, rfl, hrow3, t3, hres3, hag3, hmem3⟩
        have HRES := hid hres3; clear hres3
        have HAG3 := hid (HAG.out σ3 hag3); clear hag3
        have HME3 := hid (HME.out σ3 hmem3); clear hmem3
        have TT := hid (TW.out.trans t3); clear t3
        clear n1 n2 n3 n4 n5 e1 e2 e3 e4 e5 f5 hc0 hfz hc1 hc2
        cases hfr : firstC P cs rest (σ.set x cs[j]) with
        | some r =>
          have hat := hid (firstC_at P cs (x : Int) rest σ r j hlt (fun t ht htj => by have := HN.out t ht htj; rwa [Int.toNat_natCast]) (by rw [Int.toNat_natCast]; exact hfr))
          have hr := hid (HRES.out r (HFE.out.trans hfr))
          have hb : (firstC P cs rest (σ'.set x cs[j])).isSome = true := by rw [HFE.out, hfr]; rfl
          rw [hb]
          clear hfr hb
          go_wp2_with fail
          go_ret
          exact ⟨us3, σ3, ret_bool (by rw [hat.out]; rfl), hrow3, TT.out, (fun r' h => by rw [hat.out] at h; cases h; exact hr.out), HAG3.out, HME3.out⟩
        | none =>
          have hb : (firstC P cs rest (σ'.set x cs[j])).isSome = false := by rw [HFE.out, hfr]; rfl
          rw [hb]
          have hfr' := hid hfr; clear hfr hb
          go_wp2_with fail
          go_roundw
          case rel =>
            refine ⟨j + 1, by omega, by go_num, rfl, TT.out, us3, σ3, hrow3, HAG3.out, ?_, HME3.out, ?_⟩
            · intro y hy
              rcases HME3.out y hy with h | h
              · exact HM.out y h
              · exact .inr h
            · intro t ht htj
              by_cases e : t = j
              · subst e; exact hfr'.out
              · exact HN.out t ht (by omega)
          case measure => simp [intOf]; omega
      · obtain rfl : j = cs.length := by omega
        have hlt' : ¬ (cs.length : Int) < cs.length := by omega
        have hfn := hid (firstC_end P cs (x : Int) rest σ (fun t ht => by have := HN.out t ht ht; rwa [Int.toNat_natCast]))
        go_wp2_with fail
        go_ret
        exact ⟨us', σ', ret_bool (by rw [hfn.out]; rfl), hrow, tw, (fun r h => by rw [hfn.out] at h; cases h), HA.out, HM2.out⟩
end Go.Proofs.YtpbbfoliabgkpaaGreat
/- Walks: IsHarrop, IsNegative on both sides, and their laws. -/
namespace Go.Proofs.YtpbbfoliabgkpaaGreat
open Go.RowKit

theorem plainL_enc (t : Fm) : plainL t.enc = t.plain := by
  unfold plainL
  induction t with
  | var v => simp [Fm.enc, Fm.plain]
  | fls => simp [Fm.enc, Fm.plain]
  | and a b iha ihb => simp only [Fm.enc, Fm.plain, List.all_cons, List.all_append, iha, ihb]; simp
  | or a b iha ihb => simp only [Fm.enc, Fm.plain, List.all_cons, List.all_append, iha, ihb]; simp
  | imp a b iha ihb => simp only [Fm.enc, Fm.plain, List.all_cons, List.all_append, iha, ihb]; simp
  | box a iha => simp [Fm.enc, Fm.plain]
  | dia a iha => simp [Fm.enc, Fm.plain]
theorem plainErrs_one (a : List Nd) : plainErrs [a] = plainErr a := by
  unfold plainErrs plainErr allFm allPlainL
  cases h1 : isFm a <;> cases h2 : plainL a <;> simp [h1, h2]
theorem plain_tree {a : List Nd} (h : plainErr a = 0) : ∃ t : Fm, t.wf ∧ a = t.enc ∧ t.plain = true ∧ a.length ≤ 40 := by
  unfold plainErr at h
  by_cases hf : isFm a = true
  · by_cases hp : plainL a = true
    · have hf' := hf
      simp only [isFm, Bool.and_eq_true, decide_eq_true_eq] at hf'
      obtain ⟨t, hw, rfl⟩ := isTree_enc hf'.2
      exact ⟨t, hw, rfl, by rw [← plainL_enc]; exact hp, hf'.1⟩
    · rw [if_pos hf, if_neg hp] at h; simp at h
  · rw [if_neg hf] at h; simp at h
theorem plainErr_ne {a : List Nd} (h : plainErr a ≠ 0) : plainErr a = 1 ∨ plainErr a = 5 := by
  unfold plainErr at *
  split
  · split
    · rename_i h1 h2; simp [h1, h2] at h
    · right; rfl
  · left; rfl

--
def BothIsHarrop (a : List Nd) (b : Bool) (c : Int) : Prop :=
  (∀ v w, Nds w v a → Calls Tryz.prog 11 #[v] w fun e w' => e = .returned (.tuple #[.bool b, .int .i64 c]) ∧ Keeps w w') ∧
  (∀ v w, Nds w v a → Calls Tryz.prog 10 #[v] w fun e w' => e = .returned (.tuple #[.bool b, .int .i64 c]) ∧ Keeps w w')
theorem bothIsHarrop (a : List Nd) : ∃ b c, BothIsHarrop a b c := by
  have hne := fun (v : Value) (w : World) (hv : Nds w v a) => plainCode_any [a] _ _ (NdsL.lit1 hv)
  rw [plainErrs_one] at hne
  by_cases h : plainErr a = 0
  · obtain ⟨t, hw, rfl, hp, hl⟩ := plain_tree h
    rw [h] at hne
    have H := hid h; clear h
    have HN := hid hne; clear hne
    refine ⟨t.harrop, 0, fun v w hv => ?_, fun v w hv => ?_⟩
    · go_enter Tryz.func11, Tryz.ntmps11
      go_wp2_with (first | (go_at_call 63; refine (l29Code_any _ _ _ hv).mono ?_; rintro e w' ⟨rfl, rfl⟩; rw [H.out]) | (go_at_call 64; refine (l29Harrop_any t  _ _ hv).mono ?_; rintro e w' ⟨rfl, rfl⟩))
      go_ret2
      exact ⟨rfl, Keeps.refl _⟩
    · obtain ⟨p, n, cap, rfl⟩ := hv.shape
      have k1 := (Keeps.refl w).alloc (.cells #[.slice p n cap] 24)
      go_enter Tryz.func10, Tryz.ntmps10
      go_wp2_with (first | (go_at_call 61; refine (HN.out _ _ hv).mono ?_; rintro e w2 ⟨rfl, k2⟩) | (go_at_call 62; refine (isHarrop_any t  _ _ (hv.keeps (k1.trans k2))).mono ?_; rintro e w' ⟨rfl, rfl⟩))
      go_ret2
      exact ⟨rfl, k1.trans k2⟩
  · have h' : (plainErr a != 0) = true := by simp [h]
    have H := hid h; clear h
    have HN := hid hne; clear hne
    refine ⟨false, plainErr a, fun v w hv => ?_, fun v w hv => ?_⟩
    · go_enter Tryz.func11, Tryz.ntmps11
      go_wp2_with (go_at_call 63; refine (l29Code_any _ _ _ hv).mono ?_; rintro e w' ⟨rfl, rfl⟩)
      go_ret2
      exact ⟨rfl, Keeps.refl _⟩
    · obtain ⟨p, n, cap, rfl⟩ := hv.shape
      have k1 := (Keeps.refl w).alloc (.cells #[.slice p n cap] 24)
      go_enter Tryz.func10, Tryz.ntmps10
      go_wp2_with (go_at_call 61; refine (HN.out _ _ hv).mono ?_; rintro e w2 ⟨rfl, k2⟩)
      go_ret2
      exact ⟨rfl, k1.trans k2⟩
end Go.Proofs.YtpbbfoliabgkpaaGreat
/- Walks: Kolmogorov's translation in the reference. -/
namespace Go.Proofs.YtpbbfoliabgkpaaGreat
open Go.RowKit
def kol : Fm → Fm
  | .var v => (Fm.var v).not.not
  | .fls => .fls
  | .and a b => (Fm.and (kol a) (kol b)).not.not
  | .or a b => (Fm.or (kol a) (kol b)).not.not
  | .imp a b => (Fm.imp (kol a) (kol b)).not.not
  | .box _ => .fls
  | .dia _ => .fls
def gen : Fm → Fm
  | .var v => (Fm.var v).not.not
  | .fls => .fls
  | .and a b => .and (gen a) (gen b)
  | .or a b => (Fm.and (gen a).not (gen b).not).not
  | .imp a b => .imp (gen a) (gen b)
  | .box _ => .fls
  | .dia _ => .fls
theorem kol_len (t : Fm) : (kol t).enc.length ≤ 9 * t.enc.length := by
  induction t <;> simp [kol, Fm.not, Fm.enc] at * <;> omega
theorem gen_len (t : Fm) : (gen t).enc.length ≤ 9 * t.enc.length := by
  induction t <;> simp [gen, Fm.not, Fm.enc] at * <;> omega
end Go.Proofs.YtpbbfoliabgkpaaGreat
