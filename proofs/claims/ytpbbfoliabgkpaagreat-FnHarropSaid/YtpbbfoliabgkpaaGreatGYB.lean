/- FindUnifier and FindBreaking: both sides answer alike. (printed by mkzi.py) -/
import Derived.Test.YtpbbfoliabgkpaaGreatGZH
import Derived.Deep.RegionHeld3
import Derived.Test.YtpbbfoliabgkpaaGreatGY9
import Derived.Test.YtpbbfoliabgkpaaGreatGV5
namespace Go.Proofs.YtpbbfoliabgkpaaGreat
open Go.RowKit
theorem Sm.found {P : List Fm → Bool} {C : List Fm} {vs : List Int} (hC : OkL C) (hC40 : ∀ c ∈ C, c.enc.length ≤ 40) (h : ∀ v ∈ vs, (0 : Int) ≤ v) {σ : List Fm} (hf : firstC P C vs idF = some σ) : Sm σ :=
  Sm.of (by have := (firstC_out P C vs h idF σ hf).1.1; rw [this]; rfl) hC hC40 (firstC_mem P C vs idF σ hf)
theorem found_len {P : List Fm → Bool} {C : List Fm} {vs : List Int} (hC : OkL C) (hC40 : ∀ c ∈ C, c.enc.length ≤ 40) (h : ∀ v ∈ vs, (0 : Int) ≤ v) :
    (((firstC P C vs idF).getD []).map Fm.enc).length ≤ 1000 ∧ tot (((firstC P C vs idF).getD []).map Fm.enc) ≤ 1000 := by
  cases hf : firstC P C vs idF with
  | none => simp [tot]
  | some σ =>
    have hs := Sm.found hC hC40 h hf
    have h1 := tot_most (σ.map Fm.enc) 40 (fun x hx => by obtain ⟨y, hy, rfl⟩ := List.mem_map.1 hx; exact hs.2.2 y hy)
    have h2 := hs.1
    simp only [Option.getD_some, List.length_map] at h1 ⊢
    omega
theorem cand_zero {m n : Nat} {s : Bool} (h : candE m n s = 0) : m ≤ 8 ∧ m ^ n ≤ 600 ∧ s = true := by
  unfold candE at h
  split at h
  · omega
  · split at h
    · omega
    · rename_i h1 h2
      refine ⟨by omega, by omega, ?_⟩
      cases s
      · exact absurd (Or.inr rfl) h2
      · rfl
theorem enc_node {l : List Fm} (h : OkL l) : ∀ x ∈ l.map Fm.enc, x.all okNd = true := fun x hx => by
  obtain ⟨y, hy, rfl⟩ := List.mem_map.1 hx
  exact List.all_eq_true.2 (okNd_enc (h y hy).1)

--
set_option maxRecDepth 20000 in
set_option maxHeartbeats 4000000 in
theorem implFindU_err (a : List Nd) (cs : List (List Nd)) (E : Int) (hE : plainErrs (cs ++ [a]) = E) (h0 : E ≠ 0) (v u : Value) (w : World) (hv : Nds w v a) (hu : NdsL w u cs) (hcl : cs.length ≤ 2000000) :
    Calls Tryz.prog 35 #[v, u] w (OwE w [] E) := by
  obtain ⟨p, n, q, rfl⟩ := hv.shape
  obtain ⟨pc, nc, cc, rfl⟩ := NdsL.shapeL hu
  obtain ⟨hncc, hmcc⟩ : nc ≤ cc ∧ cc ≤ maxLen := by obtain ⟨_, _, e, h1, h2, _⟩ := hu; cases e; exact ⟨h1, h2⟩
  have h' : (E != 0) = true := by simp [h0]
  have kA := (((Keeps.refl w).alloc (.cells #[.slice p n q] 24)).alloc (.cells #[.slice p n q] 24)).drew
  have pa : ((w.alloc (.cells #[.slice p n q] 24)).alloc (.cells #[.slice p n q] 24)).drew.cell? ⟨w.heap.size, 0, none⟩ = some (.slice p n q) := by show (World.alloc _ _).cell? _ = _; rw [World.cell?_alloc_lt (h := by simp)]; simp
  have pb : (w.alloc (.cells #[.slice p n q] 24)).drew.cell? ⟨w.heap.size, 0, none⟩ = some (.slice p n q) := by show (World.alloc _ _).cell? _ = _; simp
  have hclip : NdsL ((w.alloc (.cells #[.slice p n q] 24)).alloc (.cells #[.slice p n q] 24)).drew (.slice pc nc nc) cs := by
    obtain ⟨p', cap', e, h1, h2, h3, h4⟩ := hu.keeps kA
    cases e
    exact ⟨pc, cs.length, rfl, Nat.le_refl _, by omega, h3, h4⟩
  have hatl : At ((w.alloc (.cells #[.slice p n q] 24)).alloc (.cells #[.slice p n q] 24)).drew (some ⟨w.heap.size + 1, 0, none⟩) [.slice p n q] := by
    have := (At.lit1 (w.alloc (.cells #[.slice p n q] 24)) (.slice p n q) 24).keeps (Keeps.refl _).drew
    rwa [show (w.alloc (.cells #[.slice p n q] 24)).heap.size = w.heap.size + 1 by simp] at this
  have HCL := hid (fun w2 => clip_any pc nc cc w2 hncc hmcc)
  have hpl := hid (fun v2 w2 (h : NdsL w2 v2 (cs ++ [a])) => plainCode_any (cs ++ [a]) v2 w2 h)
  clear hu h0
  go_enter Tryz.func35, Tryz.ntmps35
  go_wp2_with fail
  go_region_held3 (fun w' => w'.cell? ⟨w.heap.size, 0, none⟩ = some (.slice p n q)) (first | exact pa | exact pb | exact qa | exact qb) (first
    | (go_at_call 120; refine (HCL.out _).mono ?_; rintro e w' ⟨rfl, rfl⟩)
    | (refine stepClipO rfl (.tmp 10) (.tmp 12) rfl pc nc cs rfl hclip _ a (hv.keeps kA) _ 1 rfl hatl hcl ?_; intro v2 w2 hS2 k2; have hv2 := hS2.ndsL k2 (by simp; omega); have qa := k2.cell pa)
    | (go_at_call 61; have hPL := hpl.out _ _ hv2; rw [hE] at hPL; refine hPL.mono ?_; rintro e w3 ⟨rfl, k3⟩; have qb := k3.cell qa))
  all_goals
    have k03 := kA.trans (k2.trans k3)
    go_wp2_with fail
    go_ret2
    exact ⟨_, rfl, OwnL.nil _ _, k03⟩
set_option maxRecDepth 20000 in
set_option maxHeartbeats 4000000 in
theorem implFindU_lim (t : Fm) (ht : OkF t) (_htl : t.enc.length ≤ 40) (cs : List (List Nd)) (hE : plainErrs (cs ++ [t.enc]) = 0) (D : Int) (hD : candE cs.length (mem (vmL [t.enc])).length (decide (t.enc.length ≤ 20)) = D) (h0 : D ≠ 0)
    (v u : Value) (w : World) (hv : Nds w v t.enc) (hu : NdsL w u cs) (hcl : cs.length ≤ 2000000) : Calls Tryz.prog 35 #[v, u] w (OwE w [] D) := by
  generalize ha : t.enc = a at *
  have hnd : a.all okNd = true := by rw [← ha]; exact List.all_eq_true.2 (okNd_enc ht.1)
  obtain ⟨p, n, q, rfl⟩ := hv.shape
  obtain ⟨pc, nc, cc, rfl⟩ := NdsL.shapeL hu
  obtain ⟨hncc, hmcc⟩ : nc ≤ cc ∧ cc ≤ maxLen := by obtain ⟨_, _, e, h1, h2, _⟩ := hu; cases e; exact ⟨h1, h2⟩
  have h' : (D != 0) = true := by simp [h0]
  have HV := hid (fun w2 (k : Keeps w w2) => variablesIn_any [a] _ _ (NdsL.lit1 (hv.keeps k)) (fun x hx => by rw [List.mem_singleton.1 hx]; exact hnd))
  have hml : (mem (vmL [a])).length ≤ 6 := low_len _ 6
  generalize mem (vmL [a]) = vs at *
  have hsm : (!([a].any fun x => decide (20 < x.length))) = decide (a.length ≤ 20) := by rw [Bool.eq_iff_iff]; simp
  have hS := fun w2 (k : Keeps w w2) => haveSmall_any [a] _ _ (NdsL.lit1 (hv.keeps k))
  rw [hsm] at hS
  have HS := hid hS; clear hS hsm
  generalize decide (a.length ≤ 20) = sm at *
  have hC := fun x w2 (k : Keeps w w2) (hx : Ints w2 x vs) => candidateCode_any vs cs sm x (.slice pc nc cc) w2 (hu.keeps k) hx hml
  rw [hD] at hC
  have HCC := hid hC; clear hC
  have kA := (((Keeps.refl w).alloc (.cells #[.slice p n q] 24)).alloc (.cells #[.slice p n q] 24)).drew
  have pa : ((w.alloc (.cells #[.slice p n q] 24)).alloc (.cells #[.slice p n q] 24)).drew.cell? ⟨w.heap.size, 0, none⟩ = some (.slice p n q) := by show (World.alloc _ _).cell? _ = _; rw [World.cell?_alloc_lt (h := by simp)]; simp
  have pb : (w.alloc (.cells #[.slice p n q] 24)).drew.cell? ⟨w.heap.size, 0, none⟩ = some (.slice p n q) := by show (World.alloc _ _).cell? _ = _; simp
  have hclip : NdsL ((w.alloc (.cells #[.slice p n q] 24)).alloc (.cells #[.slice p n q] 24)).drew (.slice pc nc nc) cs := by
    obtain ⟨p', cap', e, h1, h2, h3, h4⟩ := hu.keeps kA
    cases e
    exact ⟨pc, cs.length, rfl, Nat.le_refl _, by omega, h3, h4⟩
  have hatl : At ((w.alloc (.cells #[.slice p n q] 24)).alloc (.cells #[.slice p n q] 24)).drew (some ⟨w.heap.size + 1, 0, none⟩) [.slice p n q] := by
    have := (At.lit1 (w.alloc (.cells #[.slice p n q] 24)) (.slice p n q) 24).keeps (Keeps.refl _).drew
    rwa [show (w.alloc (.cells #[.slice p n q] 24)).heap.size = w.heap.size + 1 by simp] at this
  have HCL := hid (fun w2 => clip_any pc nc cc w2 hncc hmcc)
  have hpl := hid (fun v2 w2 (h : NdsL w2 v2 (cs ++ [a])) => plainCode_any (cs ++ [a]) v2 w2 h)
  clear hu h0 hD ha _htl hnd ht
  go_enter Tryz.func35, Tryz.ntmps35
  go_wp2_with fail
  go_region_held3 (fun w' => w'.cell? ⟨w.heap.size, 0, none⟩ = some (.slice p n q)) (first | exact pa | exact pb | exact qa | exact qb) (first
    | (go_at_call 120; refine (HCL.out _).mono ?_; rintro e w' ⟨rfl, rfl⟩)
    | (refine stepClipO rfl (.tmp 10) (.tmp 12) rfl pc nc cs rfl hclip _ a (hv.keeps kA) _ 1 rfl hatl hcl ?_; intro v2 w2 hS2 k2; have hv2 := hS2.ndsL k2 (by simp; omega); have qa := k2.cell pa)
    | (go_at_call 61; have hPL := hpl.out _ _ hv2; rw [hE] at hPL; refine hPL.mono ?_; rintro e w3 ⟨rfl, k3⟩; have qb := k3.cell qa))
  all_goals
    have k03 := kA.trans (k2.trans k3)
    go_wp2_with fail
    refine (HV.out w3 k03).mono ?_; rintro e w4 ⟨v4, rfl, hv4, k4⟩
    have kB := (Keeps.refl w3).alloc (.cells #[.slice p n q] 24)
    have k04 := k03.trans (kB.trans k4)
    have qc := (kB.trans k4).cell qb
    have HI4 := hid (hv4.ints (by omega))
    obtain ⟨p4, c4, rfl, _⟩ := hv4.ints (by omega)
    go_wp2_with fail
    refine (HS.out w4 k04).mono ?_; rintro e w5 ⟨rfl, k5⟩
    have kC := (Keeps.refl w4).alloc (.cells #[.slice p n q] 24)
    have k05 := k04.trans (kC.trans k5)
    have qd := (kC.trans k5).cell qc
    have HI5 := hid (HI4.out.keeps (kC.trans k5))
    go_wp2_with fail
    refine (HCC.out _ w5 k05 HI5.out).mono ?_; rintro e w6 ⟨rfl, rfl⟩
    go_wp2_with fail
    go_ret2
    exact ⟨_, rfl, OwnL.nil _ _, k05⟩
set_option maxRecDepth 20000 in
set_option maxHeartbeats 4000000 in
theorem implFindU_ok (t : Fm) (ht : OkF t) (htl : t.enc.length ≤ 40) (C : List Fm) (hC : OkL C) (hC40 : ∀ c ∈ C, c.enc.length ≤ 40) (hE : plainErrs (C.map Fm.enc ++ [t.enc]) = 0) (hD : candE (C.map Fm.enc).length (mem (vmL [t.enc])).length (decide (t.enc.length ≤ 20)) = 0)
    (r : List (List Nd)) (c : Int) (hr : r = ((firstC (okU t) C (mem (vmL [t.enc])) idF).getD []).map Fm.enc) (hc : c = if (firstC (okU t) C (mem (vmL [t.enc])) idF).isSome then 0 else 4)
    (v u : Value) (w : World) (hv : Nds w v t.enc) (hu : NdsL w u (C.map Fm.enc)) (hcl : (C.map Fm.enc).length ≤ 2000000) : Calls Tryz.prog 35 #[v, u] w (OwE w r c) := by
  have h8 := (cand_zero hD).1
  rw [List.length_map] at h8
  have hnd : t.enc.all okNd = true := List.all_eq_true.2 (okNd_enc ht.1)
  obtain ⟨p, n, q, rfl⟩ := hv.shape
  obtain ⟨pc, nc, cc, rfl⟩ := NdsL.shapeL hu
  obtain ⟨hncc, hmcc⟩ : nc ≤ cc ∧ cc ≤ maxLen := by obtain ⟨_, _, e, h1, h2, _⟩ := hu; cases e; exact ⟨h1, h2⟩
  have HV := hid (fun w2 (k : Keeps w w2) => variablesIn_any [t.enc] _ _ (NdsL.lit1 (hv.keeps k)) (fun x hx => by rw [List.mem_singleton.1 hx]; exact hnd))
  have hml : (mem (vmL [t.enc])).length ≤ 6 := low_len _ 6
  have hmr := mem_range (vmL [t.enc])
  generalize mem (vmL [t.enc]) = vs at *
  have hsm : (!([t.enc].any fun x => decide (20 < x.length))) = decide (t.enc.length ≤ 20) := by rw [Bool.eq_iff_iff]; simp
  have hS := fun w2 (k : Keeps w w2) => haveSmall_any [t.enc] _ _ (NdsL.lit1 (hv.keeps k))
  rw [hsm] at hS
  have HS := hid hS; clear hS hsm
  generalize decide (t.enc.length ≤ 20) = sm at *
  have HFC := hid (fun b x w2 (k : Keeps w w2) (hx : Ints w2 x vs) (hb : w2.cell? ⟨b, 0, none⟩ = some (.slice p n q)) => firstCandidate_any (okU t) vs C 121 #[.pointer (some ⟨b, 0, none⟩)] w2 x (.slice pc nc cc) hx (hu.keeps k) hmr enters_findU h8 hml hC40
    (fun σ y w3 k3 hy h6 hm => findU_1_any t ht htl σ (Sm.of h6 hC hC40 hm) (.slice p n q) y b w3 (k3.cell hb) (hv.keeps (k.trans k3)) hy))
  rw [← hr, ← hc] at HFC
  generalize hcs : C.map Fm.enc = cs at *
  generalize ha : t.enc = a at *
  have hC2 := fun x w2 (k : Keeps w w2) (hx : Ints w2 x vs) => candidateCode_any vs cs sm x (.slice pc nc cc) w2 (hu.keeps k) hx hml
  rw [hD] at hC2
  have HCC := hid hC2; clear hC2
  have kA := (((Keeps.refl w).alloc (.cells #[.slice p n q] 24)).alloc (.cells #[.slice p n q] 24)).drew
  have pa : ((w.alloc (.cells #[.slice p n q] 24)).alloc (.cells #[.slice p n q] 24)).drew.cell? ⟨w.heap.size, 0, none⟩ = some (.slice p n q) := by show (World.alloc _ _).cell? _ = _; rw [World.cell?_alloc_lt (h := by simp)]; simp
  have pb : (w.alloc (.cells #[.slice p n q] 24)).drew.cell? ⟨w.heap.size, 0, none⟩ = some (.slice p n q) := by show (World.alloc _ _).cell? _ = _; simp
  have hclip : NdsL ((w.alloc (.cells #[.slice p n q] 24)).alloc (.cells #[.slice p n q] 24)).drew (.slice pc nc nc) cs := by
    obtain ⟨p', cap', e, h1, h2, h3, h4⟩ := hu.keeps kA
    cases e
    exact ⟨pc, cs.length, rfl, Nat.le_refl _, by omega, h3, h4⟩
  have hatl : At ((w.alloc (.cells #[.slice p n q] 24)).alloc (.cells #[.slice p n q] 24)).drew (some ⟨w.heap.size + 1, 0, none⟩) [.slice p n q] := by
    have := (At.lit1 (w.alloc (.cells #[.slice p n q] 24)) (.slice p n q) 24).keeps (Keeps.refl _).drew
    rwa [show (w.alloc (.cells #[.slice p n q] 24)).heap.size = w.heap.size + 1 by simp] at this
  have HCL := hid (fun w2 => clip_any pc nc cc w2 hncc hmcc)
  have hpl := hid (fun v2 w2 (h : NdsL w2 v2 (cs ++ [a])) => plainCode_any (cs ++ [a]) v2 w2 h)
  clear hu hD ha htl hnd ht hr hc hcs hC hC40 hmr
  go_enter Tryz.func35, Tryz.ntmps35
  go_wp2_with fail
  go_region_held3 (fun w' => w'.cell? ⟨w.heap.size, 0, none⟩ = some (.slice p n q)) (first | exact pa | exact pb | exact qa | exact qb) (first
    | (go_at_call 120; refine (HCL.out _).mono ?_; rintro e w' ⟨rfl, rfl⟩)
    | (refine stepClipO rfl (.tmp 10) (.tmp 12) rfl pc nc cs rfl hclip _ a (hv.keeps kA) _ 1 rfl hatl hcl ?_; intro v2 w2 hS2 k2; have hv2 := hS2.ndsL k2 (by simp; omega); have qa := k2.cell pa)
    | (go_at_call 61; have hPL := hpl.out _ _ hv2; rw [hE] at hPL; refine hPL.mono ?_; rintro e w3 ⟨rfl, k3⟩; have qb := k3.cell qa))
  all_goals
    have k03 := kA.trans (k2.trans k3)
    go_wp2_with fail
    refine (HV.out w3 k03).mono ?_; rintro e w4 ⟨v4, rfl, hv4, k4⟩
    have kB := (Keeps.refl w3).alloc (.cells #[.slice p n q] 24)
    have k04 := k03.trans (kB.trans k4)
    have qc := (kB.trans k4).cell qb
    have HI4 := hid (hv4.ints (by omega))
    obtain ⟨p4, c4, rfl, _⟩ := hv4.ints (by omega)
    go_wp2_with fail
    refine (HS.out w4 k04).mono ?_; rintro e w5 ⟨rfl, k5⟩
    have kC := (Keeps.refl w4).alloc (.cells #[.slice p n q] 24)
    have k05 := k04.trans (kC.trans k5)
    have qd := (kC.trans k5).cell qc
    have HI5 := hid (HI4.out.keeps (kC.trans k5))
    go_wp2_with fail
    refine (HCC.out _ w5 k05 HI5.out).mono ?_; rintro e w6 ⟨rfl, rfl⟩
    go_wp2_with fail
    refine (HFC.out _ _ w5 k05 HI5.out qd).mono ?_; rintro e w7 ⟨x7, rfl, hx7, k7⟩
    go_wp2_with fail
    go_ret2
    exact ⟨_, rfl, hx7.mono k05.size, k05.trans k7⟩
/-- both sides hand back a list and an error -/
def ListTwo (S I : FuncId) (a : List Nd) (l : List (List Nd)) (r : List (List Nd)) (c : Int) : Prop :=
  (∀ (v u : Value) (w : World), Nds w v a → NdsL w u l → Calls Tryz.prog S #[v, u] w (LsE w r c)) ∧ (∀ (v u : Value) (w : World), Nds w v a → NdsL w u l → Calls Tryz.prog I #[v, u] w (OwE w r c))
theorem LsE.after {a w : World} {r : List (List Nd)} {c : Int} {e : Ending} {w' : World} (h : LsE w r c e w') (k : Keeps a w) : LsE a r c e w' := by
  obtain ⟨x, h1, h2, h3⟩ := h
  exact ⟨x, h1, h2, k.trans h3⟩
--
set_option maxRecDepth 20000 in
set_option maxHeartbeats 1000000 in
theorem specFindU (a : List Nd) (cs : List (List Nd)) (r : List (List Nd)) (c : Int) (hr : ∀ v u w, NdsL w v [a] → NdsL w u cs → Calls Tryz.prog 103 #[v, u, .bool true] w (LsE w r c)) (v u : Value) (w : World) (hv : Nds w v a) (hu : NdsL w u cs) :
    Calls Tryz.prog 36 #[v, u] w (LsE w r c) := by
  obtain ⟨p, n, q, rfl⟩ := hv.shape
  have kA := (Keeps.refl w).alloc (.cells #[.slice p n q] 24)
  have H := hid (hr _ _ _ (NdsL.lit1 hv) (hu.keeps kA))
  obtain ⟨p2, n2, q2, rfl⟩ := NdsL.shapeL hu
  clear hr hu hv
  go_enter Tryz.func36, Tryz.ntmps36
  go_wp2_with fail
  refine H.out.mono ?_; rintro e w2 ⟨x, rfl, hx, k2⟩
  go_wp2_with fail
  go_ret2
  exact ⟨_, rfl, hx, kA.trans k2⟩
theorem tot_one (a : List Nd) : tot [a] = a.length := by simp [tot]
theorem bothFind (a : List Nd) (cs : List (List Nd)) (hcl : cs.length ≤ 2000000) : ∃ r c, r.length ≤ 1000 ∧ tot r ≤ 1000 ∧ ListTwo 36 35 a cs r c := by
  by_cases hE : plainErrs ([a] ++ cs) = 0
  · have hE2 : plainErrs (cs ++ [a]) = 0 := by rw [plainErrs_comm]; exact hE
    obtain ⟨t, hw, rfl, hpl, hl⟩ := plain_tree (plain_each hE a (by simp))
    have hcp := fun x hx => plain_each hE x (List.mem_append.2 (.inr hx))
    have hc40 : ∀ x ∈ cs, x.length ≤ 40 := fun x hx => by obtain ⟨_, _, _, _, h⟩ := plain_tree (hcp x hx); exact h
    obtain ⟨C, rfl, hC⟩ := list_trees hcp
    have hC40 : ∀ c ∈ C, c.enc.length ≤ 40 := fun c hc => hc40 _ (List.mem_map.2 ⟨c, hc, rfl⟩)
    have hnd : ∀ x ∈ [t.enc], x.all okNd = true := fun x hx => by rw [List.mem_singleton.1 hx]; exact List.all_eq_true.2 (okNd_enc hw)
    have hs : decide (tot [t.enc] ≤ 20) = decide (t.enc.length ≤ 20) := by rw [tot_one]
    by_cases hD : candE (C.map Fm.enc).length (mem (vmL [t.enc])).length (decide (t.enc.length ≤ 20)) = 0
    · obtain ⟨h8, hN, h20⟩ := cand_zero hD
      rw [List.length_map] at h8 hN
      have h20' : t.enc.length ≤ 20 := by simpa using h20
      have hb := found_len (P := okU t) (vs := mem (vmL [t.enc])) hC hC40 (fun v hv => by obtain ⟨k, _, rfl⟩ := mem_range _ v hv; omega)
      refine ⟨_, (if (firstC (okU t) C (mem (vmL [t.enc])) idF).isSome then 0 else 4), hb.1, hb.2, fun v u w hv hu => specFindU _ _ _ _ (fun v u w hv hu => ?_) v u w hv hu, fun v u w hv hu => ?_⟩
      · exact l31Search_U t (fun x hx => by rw [List.mem_singleton.1 hx]; exact ⟨hw, hpl⟩) (by rw [tot_one]; exact h20') C hC hC40 h8 hE hN _ _ rfl rfl v u w hv hu
      · exact implFindU_ok t ⟨hw, hpl⟩ hl C hC hC40 hE2 hD _ _ rfl rfl v u w hv hu hcl
    · refine ⟨[], candE (C.map Fm.enc).length (mem (vmL [t.enc])).length (decide (t.enc.length ≤ 20)), by simp, by simp [tot], fun v u w hv hu => specFindU _ _ _ _ (fun v u w hv hu => ?_) v u w hv hu, fun v u w hv hu => ?_⟩
      · have h := l31Search_lim [t.enc] (C.map Fm.enc) true hE hnd (by rw [tot_one]; omega) (by rw [hs]; exact hD) v u w hv hu
        rw [hs] at h
        exact h
      · exact implFindU_lim t ⟨hw, hpl⟩ hl _ hE2 _ rfl hD v u w hv hu hcl
  · refine ⟨[], plainErrs ([a] ++ cs), by simp, by simp [tot], fun v u w hv hu => specFindU _ _ _ _ (fun v u w hv hu => l31Search_err [a] cs true hE v u w hv hu) v u w hv hu, fun v u w hv hu => ?_⟩
    exact implFindU_err a cs _ (plainErrs_comm _ _) hE v u w hv hu hcl
end Go.Proofs.YtpbbfoliabgkpaaGreat
/- FindBreaking: both sides answer alike. (printed by mkzj.py) -/
namespace Go.Proofs.YtpbbfoliabgkpaaGreat
open Go.RowKit
/-- both sides hand back a list and an error, for a rule and a list -/
def ListRL (S I : FuncId) (xs : List (List Nd)) (c : List Nd) (l : List (List Nd)) (r : List (List Nd)) (k : Int) : Prop :=
  (∀ (v u x : Value) (w : World), NdsL w v xs → Nds w u c → NdsL w x l → Calls Tryz.prog S #[.agg #[v, u], x] w (LsE w r k)) ∧ (∀ (v u x : Value) (w : World), NdsL w v xs → Nds w u c → NdsL w x l → Calls Tryz.prog I #[.agg #[v, u], x] w (OwE w r k))
--
set_option maxRecDepth 20000 in
set_option maxHeartbeats 1000000 in
theorem specFindB_six (xs : List (List Nd)) (c : List Nd) (cs : List (List Nd)) (h6 : 6 < xs.length) (v u x : Value) (w : World) (hv : NdsL w v xs) (hu : Nds w u c) (_hx : NdsL w x cs) :
    Calls Tryz.prog 24 #[.agg #[v, u], x] w (LsE w [] 1) := by
  obtain ⟨p1, q1, rfl, _, hq1, _⟩ := hv
  obtain ⟨p2, n2, q2, rfl⟩ := hu.shape
  have hi6 : (6 : Int) < xs.length := by omega
  have kA := (Keeps.refl w).alloc (.cells #[.slice p1 xs.length q1, .slice p2 n2 q2] 37)
  go_enter Tryz.func24, Tryz.ntmps24
  go_wp2_with fail
  go_ret2
  exact ⟨_, rfl, ndsL_nil _, kA⟩
set_option maxRecDepth 20000 in
set_option maxHeartbeats 1000000 in
theorem specFindB (xs : List (List Nd)) (c : List Nd) (cs : List (List Nd)) (h6 : ¬ 6 < xs.length) (r : List (List Nd)) (k : Int) (hr : ∀ v u w, NdsL w v (xs ++ [c]) → NdsL w u cs → Calls Tryz.prog 103 #[v, u, .bool false] w (LsE w r k))
    (v u x : Value) (w : World) (hv : NdsL w v xs) (hu : Nds w u c) (hx : NdsL w x cs) : Calls Tryz.prog 24 #[.agg #[v, u], x] w (LsE w r k) := by
  have hv0 := hv
  obtain ⟨p1, q1, rfl, _, hq1, _⟩ := hv
  obtain ⟨p2, n2, q2, rfl⟩ := hu.shape
  obtain ⟨p3, n3, q3, rfl⟩ := NdsL.shapeL hx
  have hi6 : ¬ (6 : Int) < xs.length := by omega
  have kA := (Keeps.refl w).alloc (.cells #[.slice p1 xs.length q1, .slice p2 n2 q2] 37)
  have HO := hid (l31Of_any xs c _ _ _ (hv0.keeps kA) (hu.keeps kA) (by omega))
  have H := hid (fun v2 w2 (k2 : Keeps w w2) (h : NdsL w2 v2 (xs ++ [c])) => hr v2 (.slice p3 n3 q3) w2 h (hx.keeps k2))
  have H6 := hid h6; clear h6
  clear hr hv0 hu hx
  go_enter Tryz.func24, Tryz.ntmps24
  go_wp2_with fail
  refine HO.out.mono ?_; rintro e w2 ⟨v2, rfl, hv2, k2⟩
  have hL := hv2.ndsL k2 (by have := H6.out; simp; omega)
  obtain ⟨p4, n4, q4, rfl⟩ := NdsL.shapeL hL
  have HL := hid (H.out _ w2 (kA.trans k2) hL)
  clear hL hv2
  go_wp2_with fail
  refine HL.out.mono ?_; rintro e w3 ⟨y, rfl, hy, k3⟩
  go_wp2_with fail
  go_ret2
  exact ⟨_, rfl, hy, (kA.trans k2).trans k3⟩
--
set_option maxRecDepth 20000 in
set_option maxHeartbeats 4000000 in
theorem implFindB_err (xs : List (List Nd)) (c : List Nd) (cs : List (List Nd)) (E : Int) (hE : ruleErrX xs c cs = E) (h0 : E ≠ 0) (v u x : Value) (w : World) (hv : NdsL w v xs) (hu : Nds w u c) (hx : NdsL w x cs) (hcl : cs.length ≤ 2000000) :
    Calls Tryz.prog 23 #[.agg #[v, u], x] w (OwE w [] E) := by
  have h' : (E != 0) = true := by simp [h0]
  obtain ⟨p1, n1, q1, rfl⟩ := NdsL.shapeL hv
  obtain ⟨p2, n2, q2, rfl⟩ := hu.shape
  obtain ⟨p3, n3, q3, rfl⟩ := NdsL.shapeL hx
  have kA := (Keeps.refl w).alloc (.cells #[.slice p1 n1 q1, .slice p2 n2 q2] 37)
  have pa : (w.alloc (.cells #[.slice p1 n1 q1, .slice p2 n2 q2] 37)).cell? ⟨w.heap.size, 0, none⟩ = some (.slice p1 n1 q1) := by simp
  have pb : (w.alloc (.cells #[.slice p1 n1 q1, .slice p2 n2 q2] 37)).cell? ⟨w.heap.size, 1, none⟩ = some (.slice p2 n2 q2) := by simp
  have hR := ruleCode_any xs c cs _ _ _ _ (hv.keeps kA) (hu.keeps kA) (hx.keeps kA) hcl
  rw [hE] at hR
  have HR := hid hR; clear hR
  clear hv hu hx h0 hE
  go_enter Tryz.func23, Tryz.ntmps23
  go_wp2_with fail
  refine HR.out.mono ?_; rintro e w2 ⟨rfl, k2⟩
  have k02 := kA.trans k2
  obtain ⟨qa, qb⟩ := cells_keeps k2 (And.intro pa pb)
  go_wp2_with fail
  go_ret2
  exact ⟨_, rfl, OwnL.nil _ _, k02⟩
set_option maxRecDepth 20000 in
set_option maxHeartbeats 4000000 in
theorem implFindB_lim (xs : List (List Nd)) (c : List Nd) (cs : List (List Nd)) (hE : ruleErrX xs c cs = 0) (hx6 : xs.length ≤ 6) (hnd : ∀ a ∈ xs ++ [c], a.all okNd = true) (htt : tot (xs ++ [c]) ≤ 1000) (D : Int) (hD : candE cs.length (mem (vmL (xs ++ [c]))).length (decide (tot (xs ++ [c]) ≤ 20)) = D) (h0 : D ≠ 0)
    (v u x : Value) (w : World) (hv : NdsL w v xs) (hu : Nds w u c) (hx : NdsL w x cs) (hcl : cs.length ≤ 2000000) : Calls Tryz.prog 23 #[.agg #[v, u], x] w (OwE w [] D) := by
  have h' : (D != 0) = true := by simp [h0]
  obtain ⟨p1, n1, q1, rfl⟩ := NdsL.shapeL hv
  obtain ⟨p2, n2, q2, rfl⟩ := hu.shape
  obtain ⟨p3, n3, q3, rfl⟩ := NdsL.shapeL hx
  have kA := (Keeps.refl w).alloc (.cells #[.slice p1 n1 q1, .slice p2 n2 q2] 37)
  have pa : (w.alloc (.cells #[.slice p1 n1 q1, .slice p2 n2 q2] 37)).cell? ⟨w.heap.size, 0, none⟩ = some (.slice p1 n1 q1) := by simp
  have pb : (w.alloc (.cells #[.slice p1 n1 q1, .slice p2 n2 q2] 37)).cell? ⟨w.heap.size, 1, none⟩ = some (.slice p2 n2 q2) := by simp
  have hR := ruleCode_any xs c cs _ _ _ _ (hv.keeps kA) (hu.keeps kA) (hx.keeps kA) hcl
  rw [hE] at hR
  have HR := hid hR; clear hR
  have HF := hid (fun w2 (k : Keeps w w2) => formulas_any xs c _ _ w2 (hv.keeps k) (hu.keeps k) (by omega))
  have HV := hid (fun v3 w2 (h : NdsL w2 v3 (xs ++ [c])) => variablesIn_any (xs ++ [c]) v3 w2 h hnd)
  have hml : (mem (vmL (xs ++ [c]))).length ≤ 6 := low_len _ 6
  have HS := hid (fun w2 (k : Keeps w w2) => isSmallRule_any xs c _ _ w2 (hv.keeps k) (hu.keeps k) (by omega) (by omega))
  generalize mem (vmL (xs ++ [c])) = vs at *
  generalize decide (tot (xs ++ [c]) ≤ 20) = sm at *
  have hC2 := fun y w2 (k : Keeps w w2) (hy : Ints w2 y vs) => candidateCode_any vs cs sm y (.slice p3 n3 q3) w2 (hx.keeps k) hy hml
  rw [hD] at hC2
  have HCC := hid hC2; clear hC2
  clear hv hu hx h0 hE hD hnd htt
  go_enter Tryz.func23, Tryz.ntmps23
  go_wp2_with fail
  refine HR.out.mono ?_; rintro e w2 ⟨rfl, k2⟩
  have k02 := kA.trans k2
  obtain ⟨qa, qb⟩ := cells_keeps k2 (And.intro pa pb)
  go_wp2_with fail
  refine (HF.out w2 k02).mono ?_; rintro e w3 ⟨v3, rfl, hv3, k3⟩
  have k03 := k02.trans k3
  obtain ⟨ra, rb⟩ := cells_keeps k3 (And.intro qa qb)
  go_wp2_with fail
  refine (HV.out _ w3 hv3).mono ?_; rintro e w4 ⟨v4, rfl, hv4, k4⟩
  have k04 := k03.trans k4
  obtain ⟨sa, sb⟩ := cells_keeps k4 (And.intro ra rb)
  have HI4 := hid (hv4.ints (by omega))
  obtain ⟨p4, c4, rfl, _⟩ := hv4.ints (by omega)
  clear hv3 hv4
  go_wp2_with fail
  refine (HS.out w4 k04).mono ?_; rintro e w5 ⟨rfl, k5⟩
  have k05 := k04.trans k5
  obtain ⟨ta, tb⟩ := cells_keeps k5 (And.intro sa sb)
  have HI5 := hid (HI4.out.keeps k5)
  go_wp2_with fail
  refine (HCC.out _ w5 k05 HI5.out).mono ?_; rintro e w6 ⟨rfl, rfl⟩
  go_wp2_with fail
  go_ret2
  exact ⟨_, rfl, OwnL.nil _ _, k05⟩
set_option maxRecDepth 20000 in
set_option maxHeartbeats 4000000 in
theorem implFindB_ok (G : List Fm) (t : Fm) (hT : OkL (G ++ [t])) (hl40 : ∀ a ∈ G ++ [t], a.enc.length ≤ 40) (hx6' : G.length ≤ 6) (C : List Fm) (hC : OkL C) (hC40 : ∀ c ∈ C, c.enc.length ≤ 40) (hE : ruleErrX (G.map Fm.enc) t.enc (C.map Fm.enc) = 0)
    (hD : candE (C.map Fm.enc).length (mem (vmL (G.map Fm.enc ++ [t.enc]))).length (decide (tot (G.map Fm.enc ++ [t.enc]) ≤ 20)) = 0) (htt : tot (G.map Fm.enc ++ [t.enc]) ≤ 1000)
    (r : List (List Nd)) (c : Int) (hr : r = ((firstC (okB G t) C (mem (vmL (G.map Fm.enc ++ [t.enc]))) idF).getD []).map Fm.enc) (hc : c = if (firstC (okB G t) C (mem (vmL (G.map Fm.enc ++ [t.enc]))) idF).isSome then 0 else 4)
    (v u x : Value) (w : World) (hv : NdsL w v (G.map Fm.enc)) (hu : Nds w u t.enc) (hx : NdsL w x (C.map Fm.enc)) (hcl : (C.map Fm.enc).length ≤ 2000000) : Calls Tryz.prog 23 #[.agg #[v, u], x] w (OwE w r c) := by
  have h8 := (cand_zero hD).1
  rw [List.length_map] at h8
  have hnd : ∀ a ∈ G.map Fm.enc ++ [t.enc], a.all okNd = true := fun a ha => enc_node hT a (by simpa using ha)
  have hx6 : (G.map Fm.enc).length ≤ 6 := by simpa using hx6'
  have hmr := mem_range (vmL (G.map Fm.enc ++ [t.enc]))
  obtain ⟨p1, n1, q1, rfl⟩ := NdsL.shapeL hv
  obtain ⟨p2, n2, q2, rfl⟩ := hu.shape
  obtain ⟨p3, n3, q3, rfl⟩ := NdsL.shapeL hx
  have kA := (Keeps.refl w).alloc (.cells #[.slice p1 n1 q1, .slice p2 n2 q2] 37)
  have pa : (w.alloc (.cells #[.slice p1 n1 q1, .slice p2 n2 q2] 37)).cell? ⟨w.heap.size, 0, none⟩ = some (.slice p1 n1 q1) := by simp
  have pb : (w.alloc (.cells #[.slice p1 n1 q1, .slice p2 n2 q2] 37)).cell? ⟨w.heap.size, 1, none⟩ = some (.slice p2 n2 q2) := by simp
  have hR := ruleCode_any (G.map Fm.enc) t.enc (C.map Fm.enc) _ _ _ _ (hv.keeps kA) (hu.keeps kA) (hx.keeps kA) hcl
  rw [hE] at hR
  have HR := hid hR; clear hR
  have HF := hid (fun w2 (k : Keeps w w2) => formulas_any (G.map Fm.enc) t.enc _ _ w2 (hv.keeps k) (hu.keeps k) (by omega))
  have HV := hid (fun v3 w2 (h : NdsL w2 v3 (G.map Fm.enc ++ [t.enc])) => variablesIn_any (G.map Fm.enc ++ [t.enc]) v3 w2 h hnd)
  have hml : (mem (vmL (G.map Fm.enc ++ [t.enc]))).length ≤ 6 := low_len _ 6
  have HS := hid (fun w2 (k : Keeps w w2) => isSmallRule_any (G.map Fm.enc) t.enc _ _ w2 (hv.keeps k) (hu.keeps k) (by omega) (by omega))
  generalize mem (vmL (G.map Fm.enc ++ [t.enc])) = vs at *
  generalize decide (tot (G.map Fm.enc ++ [t.enc]) ≤ 20) = sm at *
  have HFC := hid (fun b y w2 (k : Keeps w w2) (hy : Ints w2 y vs) (hb : w2.cell? ⟨b, 0, none⟩ = some (.slice p1 n1 q1)) (hb2 : w2.cell? ⟨b, 1, none⟩ = some (.slice p2 n2 q2)) => firstCandidate_any (okB G t) vs C 102 #[.pointer (some ⟨b, 0, none⟩)] w2 y (.slice p3 n3 q3) hy (hx.keeps k) hmr enters_findB h8 hml hC40
    (fun σ z w3 k3 hz h6 hm => findB_1_any G t hT hl40 hx6' σ (Sm.of h6 hC hC40 hm) (.slice p1 n1 q1) (.slice p2 n2 q2) z b w3 (k3.cell hb) (k3.cell hb2) (hv.keeps (k.trans k3)) (hu.keeps (k.trans k3)) hz))
  rw [← hr, ← hc] at HFC
  have hC2 := fun y w2 (k : Keeps w w2) (hy : Ints w2 y vs) => candidateCode_any vs (C.map Fm.enc) sm y (.slice p3 n3 q3) w2 (hx.keeps k) hy hml
  rw [hD] at hC2
  have HCC := hid hC2; clear hC2
  clear hv hu hx hE hD hnd htt hr hc hC hC40 hmr hT hl40 hcl hx6
  go_enter Tryz.func23, Tryz.ntmps23
  go_wp2_with fail
  refine HR.out.mono ?_; rintro e w2 ⟨rfl, k2⟩
  have k02 := kA.trans k2
  obtain ⟨qa, qb⟩ := cells_keeps k2 (And.intro pa pb)
  go_wp2_with fail
  refine (HF.out w2 k02).mono ?_; rintro e w3 ⟨v3, rfl, hv3, k3⟩
  have k03 := k02.trans k3
  obtain ⟨ra, rb⟩ := cells_keeps k3 (And.intro qa qb)
  go_wp2_with fail
  refine (HV.out _ w3 hv3).mono ?_; rintro e w4 ⟨v4, rfl, hv4, k4⟩
  have k04 := k03.trans k4
  obtain ⟨sa, sb⟩ := cells_keeps k4 (And.intro ra rb)
  have HI4 := hid (hv4.ints (by omega))
  obtain ⟨p4, c4, rfl, _⟩ := hv4.ints (by omega)
  clear hv3 hv4
  go_wp2_with fail
  refine (HS.out w4 k04).mono ?_; rintro e w5 ⟨rfl, k5⟩
  have k05 := k04.trans k5
  obtain ⟨ta, tb⟩ := cells_keeps k5 (And.intro sa sb)
  have HI5 := hid (HI4.out.keeps k5)
  go_wp2_with fail
  refine (HCC.out _ w5 k05 HI5.out).mono ?_; rintro e w6 ⟨rfl, rfl⟩
  go_wp2_with fail
  refine (HFC.out _ _ w5 k05 HI5.out ta tb).mono ?_; rintro e w7 ⟨x7, rfl, hx7, k7⟩
  go_wp2_with fail
  go_ret2
  exact ⟨_, rfl, hx7.mono k05.size, k05.trans k7⟩
--
theorem bothFindR (xs : List (List Nd)) (c : List Nd) (cs : List (List Nd)) (hcl : cs.length ≤ 2000000) : ∃ r k, r.length ≤ 1000 ∧ tot r ≤ 1000 ∧ ListRL 24 23 xs c cs r k := by
  by_cases h6 : 6 < xs.length
  · exact ⟨[], 1, by simp, by simp [tot], fun v u x w hv hu hx => specFindB_six xs c cs h6 v u x w hv hu hx, fun v u x w hv hu hx => implFindB_err xs c cs 1 (by rw [ruleErrX, if_pos h6]) (by decide) v u x w hv hu hx hcl⟩
  have hre : ruleErrX xs c cs = plainErrs ((xs ++ [c]) ++ cs) := by rw [ruleErrX, if_neg h6]
  by_cases hE : plainErrs ((xs ++ [c]) ++ cs) = 0
  · have hall := fun x hx => plain_each hE x (List.mem_append.2 (.inl hx))
    obtain ⟨G, rfl, hG⟩ := list_trees (l := xs) (fun x hx => hall x (List.mem_append.2 (.inl hx)))
    obtain ⟨t, hw, rfl, hpl, hl⟩ := plain_tree (hall c (by simp))
    have hcp := fun x hx => plain_each hE x (List.mem_append.2 (.inr hx))
    have hc40 : ∀ x ∈ cs, x.length ≤ 40 := fun x hx => by obtain ⟨_, _, _, _, h⟩ := plain_tree (hcp x hx); exact h
    obtain ⟨C, rfl, hC⟩ := list_trees hcp
    have hC40 : ∀ c ∈ C, c.enc.length ≤ 40 := fun c hc => hc40 _ (List.mem_map.2 ⟨c, hc, rfl⟩)
    have hT : OkL (G ++ [t]) := fun a ha => (List.mem_append.1 ha).elim (hG a) (fun h => by rw [List.mem_singleton.1 h]; exact ⟨hw, hpl⟩)
    have hl40 : ∀ a ∈ G ++ [t], a.enc.length ≤ 40 := fun a ha => by
      have : a.enc ∈ G.map Fm.enc ++ [t.enc] := by simpa using List.mem_map.2 ⟨a, ha, rfl⟩
      obtain ⟨_, _, _, _, h⟩ := plain_tree (hall _ this)
      exact h
    have hx6 : G.length ≤ 6 := by simp at h6; exact h6
    have hmp : (G ++ [t]).map Fm.enc = G.map Fm.enc ++ [t.enc] := by simp
    have hnd : ∀ a ∈ G.map Fm.enc ++ [t.enc], a.all okNd = true := fun a ha => enc_node hT a (by rw [hmp]; exact ha)
    have htt : tot (G.map Fm.enc ++ [t.enc]) ≤ 1000 := by
      have := tot_most (G.map Fm.enc ++ [t.enc]) 40 (fun x hx => by rw [← hmp] at hx; obtain ⟨y, hy, rfl⟩ := List.mem_map.1 hx; exact hl40 y hy)
      rw [List.length_append, List.length_map, List.length_singleton] at this
      omega
    by_cases hD : candE (C.map Fm.enc).length (mem (vmL (G.map Fm.enc ++ [t.enc]))).length (decide (tot (G.map Fm.enc ++ [t.enc]) ≤ 20)) = 0
    · obtain ⟨h8, hN, h20⟩ := cand_zero hD
      rw [List.length_map] at h8 hN
      have h20' : tot (G.map Fm.enc ++ [t.enc]) ≤ 20 := by simpa using h20
      have hb := found_len (P := okB G t) (vs := mem (vmL (G.map Fm.enc ++ [t.enc]))) hC hC40 (fun v hv => by obtain ⟨k, _, rfl⟩ := mem_range _ v hv; omega)
      refine ⟨_, (if (firstC (okB G t) C (mem (vmL (G.map Fm.enc ++ [t.enc]))) idF).isSome then 0 else 4), hb.1, hb.2, fun v u x w hv hu hx => specFindB _ _ _ h6 _ _ (fun v u w hv hu => ?_) v u x w hv hu hx, fun v u x w hv hu hx => ?_⟩
      · rw [← hmp] at hv hE hN h20' ⊢
        exact l31Search_B G t hT hx6 h20' C hC hC40 h8 hE hN _ _ rfl rfl v u w hv hu
      · exact implFindB_ok G t hT hl40 hx6 C hC hC40 (by rw [hre]; exact hE) hD htt _ _ rfl rfl v u x w hv hu hx hcl
    · refine ⟨[], candE (C.map Fm.enc).length (mem (vmL (G.map Fm.enc ++ [t.enc]))).length (decide (tot (G.map Fm.enc ++ [t.enc]) ≤ 20)), by simp, by simp [tot], fun v u x w hv hu hx => specFindB _ _ _ h6 _ _ (fun v u w hv hu => ?_) v u x w hv hu hx, fun v u x w hv hu hx => ?_⟩
      · exact l31Search_lim (G.map Fm.enc ++ [t.enc]) (C.map Fm.enc) false hE hnd htt hD v u w hv hu
      · exact implFindB_lim _ _ _ (by rw [hre]; exact hE) (by simpa using hx6) hnd htt _ rfl hD v u x w hv hu hx hcl
  · exact ⟨[], plainErrs ((xs ++ [c]) ++ cs), by simp, by simp [tot], fun v u x w hv hu hx => specFindB _ _ _ h6 _ _ (fun v u w hv hu => l31Search_err _ cs false hE v u w hv hu) v u x w hv hu hx, fun v u x w hv hu hx => implFindB_err xs c cs _ hre hE v u x w hv hu hx hcl⟩
end Go.Proofs.YtpbbfoliabgkpaaGreat
/- ProjectiveMask: plain law, and what it calls. -/
namespace Go.Proofs.YtpbbfoliabgkpaaGreat
open Go.RowKit
/-- the weight of a plain formula, by its nodes -/
theorem wt_three : ∀ t : Fm, t.plain = true → ∃ k, t.enc.length = 2 * k + 1 ∧ wt t ≤ 2 * 3 ^ k := by
  have h3 : ∀ k : Nat, 1 ≤ 3 ^ k := fun k => Nat.one_le_pow _ _ (by omega)
  have key : ∀ (a b i j : Nat), a ≤ 2 * 3 ^ i → b ≤ 2 * 3 ^ j → a * (1 + b) ≤ 2 * 3 ^ (i + j + 1) := fun a b i j ha hb => by
    have h1 : 1 + b ≤ 3 ^ (j + 1) := by rw [Nat.pow_succ]; have := h3 j; omega
    have h2 := Nat.mul_le_mul ha h1
    rw [show 2 * 3 ^ (i + j + 1) = 2 * 3 ^ i * 3 ^ (j + 1) by rw [Nat.mul_assoc, ← Nat.pow_add]; congr 1]
    exact h2
  intro t
  induction t with
  | var i => intro _; exact ⟨0, rfl, by simp [wt]⟩
  | fls => intro _; exact ⟨0, rfl, by simp [wt]⟩
  | and x y hx hy =>
    intro h
    simp [Fm.plain] at h
    obtain ⟨i, h1, h2⟩ := hx h.1
    obtain ⟨j, h4, h5⟩ := hy h.2
    refine ⟨i + j + 1, by simp only [Fm.enc, List.length_cons, List.length_append]; omega, ?_⟩
    exact key _ _ i j h2 h5
  | or x y hx hy =>
    intro h
    simp [Fm.plain] at h
    obtain ⟨i, h1, h2⟩ := hx h.1
    obtain ⟨j, h4, h5⟩ := hy h.2
    refine ⟨i + j + 1, by simp only [Fm.enc, List.length_cons, List.length_append]; omega, ?_⟩
    have h6 := key _ _ i j h2 h5
    have h7 := mul2 (wt_ge x) (wt_ge y)
    have h8 := wt_ge x
    have h9 := wt_ge y
    have h10 := mul_two_le (a := wt x) (wt_ge y)
    have h11 : 2 * wt y ≤ wt x * wt y := Nat.mul_le_mul_right _ (wt_ge x)
    simp only [wt]
    rw [Nat.mul_add, Nat.mul_one] at h6
    omega
  | imp x y hx hy =>
    intro h
    simp [Fm.plain] at h
    obtain ⟨i, h1, h2⟩ := hx h.1
    obtain ⟨j, h4, h5⟩ := hy h.2
    refine ⟨i + j + 1, by simp only [Fm.enc, List.length_cons, List.length_append]; omega, ?_⟩
    have h6 := key _ _ i j h2 h5
    have h8 := wt_ge x
    simp only [wt]
    rw [Nat.mul_add, Nat.mul_one] at h6
    omega
  | box x _ => intro h; simp [Fm.plain] at h
  | dia x _ => intro h; simp [Fm.plain] at h
theorem wt_28 {t : Fm} (hp : t.plain = true) (h : t.enc.length ≤ 28) : wt t ≤ 4000000 := by
  obtain ⟨k, h1, h2⟩ := wt_three t hp
  have h3 : 3 ^ k ≤ 3 ^ 13 := Nat.pow_le_pow_right (by omega) (by omega)
  have h4 : (3 : Nat) ^ 13 = 1594323 := by decide
  omega
set_option maxRecDepth 20000 in
theorem isTheorem_28 (c : Fm) (hc : OkF c) (hl : c.enc.length ≤ 28) (v : Value) (w : World) (hv : Nds w v c.enc) :
    Calls Tryz.prog 110 #[v] w fun e w' => e = .returned (.bool (sqB [] c)) ∧ Keeps w w' := by
  have hwt := wt_28 hc.2 hl
  have HT := hid (text_any c hc.1 (by omega) v w hv)
  have HP := hid (fun s (hs : bts s = c.body) w2 => provable_any [] c okL_nil hc (by simp only [wts]; omega) s (.slice none 0 0) w2 (Left.nil w2) hs)
  clear hv
  go_enter Tryz.func110, Tryz.ntmps110
  go_wp2_with fail
  refine HT.out.mono ?_; rintro e w1 ⟨s, rfl, hs, k1⟩
  go_wp2_with fail
  refine (HP.out s hs w1).mono ?_; rintro e w2 ⟨rfl, k2⟩
  go_wp2_with fail
  go_ret
  exact ⟨rfl, k1.trans k2⟩
set_option maxRecDepth 20000 in
theorem l31Theorem_28 (c : Fm) (hc : OkF c) (hlc : c.enc.length ≤ 28) (v : Value) (w : World) (hv : Nds w v c.enc) :
    Calls Tryz.prog 116 #[v] w fun e w' => e = .returned (.bool (sqB [] c)) ∧ Keeps w w' := by
  have kl := (Keeps.refl w).alloc (.cells #[] 9)
  have HT := hid (l02Text_any c hc.1 hc.2 (by omega) v _ (hv.keeps kl))
  have hE := hid (show Left (w.alloc (.cells #[] 9)) (.slice (some ⟨w.heap.size, 0, none⟩) 0 0) [] from ⟨[], (OwnS.empty w).strs (by simp), rfl⟩)
  have hw : wts [] + wt c ≤ 1000000000 := by
    have h1 := wt_28 hc.2 hlc
    simp only [wts]; omega
  have HK := hid (fun s (hs : bts s = c.body) v w2 (h : Left w2 v []) => l23Ok_any [] c okL_nil hc (by simp) (by omega) (by simp) hw s v w2 h hs)
  clear hv hw
  go_enter Tryz.func116, Tryz.ntmps116
  go_wp2_with fail
  refine HT.out.mono ?_; rintro e w1 ⟨s, rfl, hs, k1⟩
  go_wp2_with fail
  refine (HK.out s hs _ w1 (hE.out.keeps k1)).mono ?_; rintro e w2 ⟨rfl, k2⟩
  go_wp2_with fail
  go_ret
  exact ⟨rfl, (kl.trans k1).trans k2⟩
/-- six plain formulas -/
def Trees (ims : List (List Nd)) : Prop := ims.length = 6 ∧ ∀ x ∈ ims, ∃ u : Fm, x = u.enc ∧ OkF u
theorem sub_trees {ims : List (List Nd)} (hs : Trees ims) : ∀ t : Fm, OkF t → ∃ u, sub ims t.enc = u.enc ∧ OkF u := by
  intro t
  induction t with
  | var i =>
    intro ht
    have hi : i < ims.length := by have : i < 6 := ht.1; have := hs.1; omega
    obtain ⟨u, e, hok⟩ := hs.2 ims[i] (List.getElem_mem hi)
    refine ⟨u, ?_, hok⟩
    simp [Fm.enc, sub, subN, List.getD_eq_getElem?_getD, hi, e]
  | fls => intro _; exact ⟨.fls, by simp [Fm.enc, sub, subN], okF_fls⟩
  | and x y hx hy =>
    intro ht
    obtain ⟨u, h1, h2⟩ := hx (OkF.and ht).1
    obtain ⟨v, h3, h4⟩ := hy (OkF.and ht).2
    exact ⟨.and u v, by simp [Fm.enc, sub, subN, sub_append, h1, h3], ⟨h2.1, h4.1⟩, by simp [Fm.plain, h2.2, h4.2]⟩
  | or x y hx hy =>
    intro ht
    obtain ⟨u, h1, h2⟩ := hx (OkF.or ht).1
    obtain ⟨v, h3, h4⟩ := hy (OkF.or ht).2
    exact ⟨.or u v, by simp [Fm.enc, sub, subN, sub_append, h1, h3], ⟨h2.1, h4.1⟩, by simp [Fm.plain, h2.2, h4.2]⟩
  | imp x y hx hy =>
    intro ht
    obtain ⟨u, h1, h2⟩ := hx (OkF.imp ht).1
    obtain ⟨v, h3, h4⟩ := hy (OkF.imp ht).2
    exact ⟨.imp u v, by simp [Fm.enc, sub, subN, sub_append, h1, h3], ⟨h2.1, h4.1⟩, by simp [Fm.plain, h2.2, h4.2]⟩
  | box x _ => intro ht; exact absurd ht.2 (by simp [Fm.plain])
  | dia x _ => intro ht; exact absurd ht.2 (by simp [Fm.plain])
theorem okF_var {k : Nat} (h : k < 6) : OkF (.var k) := ⟨h, rfl⟩
theorem lift_trees (t : Fm) (ht : OkF t) (mask : Nat) : Trees (liftL t.enc mask) := by
  refine ⟨liftF_len _ _ _, ?_⟩
  have h : ∀ (ms : List Int) (l : List (List Nd)), (∀ x ∈ ms, ∃ k : Nat, k < 6 ∧ x = k) → (∀ x ∈ l, ∃ u : Fm, x = u.enc ∧ OkF u) → ∀ x ∈ ms.foldl (fun l v => l.set v.toNat (liftI t.enc mask v)) l, ∃ u : Fm, x = u.enc ∧ OkF u := by
    intro ms
    induction ms with
    | nil => intro l _ hl; exact hl
    | cons v ms ih =>
      intro l hms hl
      refine ih _ (fun y hy => hms y (by simp [hy])) (fun x hx => ?_)
      rcases List.mem_or_eq_of_mem_set hx with hx | rfl
      · exact hl x hx
      · obtain ⟨k, hk, rfl⟩ := hms v (by simp)
        unfold liftI
        split
        · exact ⟨.imp t (.var k), by simp [Fm.enc], OkF.mkImp ht (okF_var hk)⟩
        · exact ⟨.and t (.var k), by simp [Fm.enc], ⟨ht.1, hk⟩, by simp [Fm.plain, ht.2]⟩
  refine h _ _ (mem_range _) (fun x hx => ?_)
  simp only [idL, List.mem_map, List.mem_range] at hx
  obtain ⟨k, hk, rfl⟩ := hx
  exact ⟨.var k, rfl, okF_var hk⟩
theorem lift_len (t : Fm) (mask : Nat) : ∀ x ∈ liftL t.enc mask, x.length ≤ t.enc.length + 2 := by
  have h : ∀ (ms : List Int) (l : List (List Nd)), (∀ x ∈ l, x.length ≤ t.enc.length + 2) → ∀ x ∈ ms.foldl (fun l v => l.set v.toNat (liftI t.enc mask v)) l, x.length ≤ t.enc.length + 2 := by
    intro ms
    induction ms with
    | nil => intro l hl; exact hl
    | cons v ms ih =>
      intro l hl
      refine ih _ (fun x hx => ?_)
      rcases List.mem_or_eq_of_mem_set hx with hx | rfl
      · exact hl x hx
      · rw [liftI_len]; exact Nat.le_refl _
  refine h _ _ (fun x hx => ?_)
  simp only [idL, List.mem_map, List.mem_range] at hx
  obtain ⟨k, hk, rfl⟩ := hx
  simp [Fm.enc]
/-- the masks below a mask -/
def subs (m : Nat) : List Nat := (List.range 64).filter fun s => decide (s &&& m = s)
theorem subs_mem {m s : Nat} : s ∈ subs m ↔ s < 64 ∧ s &&& m = s := by simp [subs]
theorem subs_lt {m : Nat} {i j : Nat} (hij : i < j) (hj : j < (subs m).length) : (subs m)[i]'(by omega) < (subs m)[j] := by
  have h : (subs m).Pairwise (· < ·) := List.pairwise_lt_range.filter _
  exact List.pairwise_iff_getElem.1 h i j (by omega) hj hij
def sOf (m k : Nat) : Nat := (subs m).getD k 0
theorem subs_table : ∀ m : Fin 64, ∀ k : Fin 64, (k.val + 1 < (subs m).length → ((sOf m k : Int) == ((m.val : Nat) : Int)) = false ∧ bits .and .i64 ((sOf m k : Int) - (m.val : Nat)) (m.val : Nat) = ((sOf m (k.val + 1) : Nat) : Int)) ∧ (k.val + 1 = (subs m).length → sOf m k = m.val) ∧ sOf m k < 64 := by decide +kernel
theorem subs_len : ∀ m : Fin 64, 0 < (subs m).length ∧ (subs m).length ≤ 64 ∧ sOf m 0 = 0 := by decide +kernel
theorem andNot_table : ∀ k m : Fin 64, (bits .andNot .i64 ((k.val : Nat) : Int) ((m.val : Nat) : Int) != 0) = !decide (k.val &&& m.val = k.val) := by decide +kernel
def orL (l : List Int) : Int := l.foldl (fun acc x => bits .or .i64 acc (2 ^ x.toNat)) 0
theorem orL_snoc (l : List Int) (x : Int) : orL (l ++ [x]) = bits .or .i64 (orL l) (2 ^ x.toNat) := by simp [orL, List.foldl_append]
theorem orL_table : ∀ m : Fin 64, orL (mem m) = ((m.val : Nat) : Int) := by decide +kernel
end Go.Proofs.YtpbbfoliabgkpaaGreat
