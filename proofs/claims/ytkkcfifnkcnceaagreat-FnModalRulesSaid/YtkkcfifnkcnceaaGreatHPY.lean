/- SurvivingTypes, IsModalTheorem, LogicsOf: the program's side. -/
import Derived.Test.YtkkcfifnkcnceaaGreatHPR
import Derived.Test.YtkkcfifnkcnceaaGreatHND
import Derived.Test.YtkkcfifnkcnceaaGreatHPW
import Derived.Test.YtkkcfifnkcnceaaGreatHMJ
import Derived.Test.YtkkcfifnkcnceaaGreatHMY
namespace Go.Proofs.YtkkcfifnkcnceaaGreat
open Go.RowKit
noncomputable def mtB (s : ByteArray) (ss tt : List ByteArray) : Bool := thmB (lgN s) (seE ss tt) (seN ss tt) (fmL ss) (fmL tt)
noncomputable def mtR (s : ByteArray) (ss tt : List ByteArray) : Bool := if srC s ss tt = 0 then mtB s ss tt else false
theorem seq1 (w : World) (v u : Value) : Keeps w ((w.alloc (.cells #[v, u] 26)).alloc (.cells #[v, u] 26)) ∧
  ((w.alloc (.cells #[v, u] 26)).alloc (.cells #[v, u] 26)).cell? ⟨w.heap.size, 0, none⟩ = some v ∧ ((w.alloc (.cells #[v, u] 26)).alloc (.cells #[v, u] 26)).cell? ⟨w.heap.size, 1, none⟩ = some u ∧
  ((w.alloc (.cells #[v, u] 26)).alloc (.cells #[v, u] 26)).cell? ⟨w.heap.size + 1, 0, none⟩ = some v ∧ ((w.alloc (.cells #[v, u] 26)).alloc (.cells #[v, u] 26)).cell? ⟨w.heap.size + 1, 1, none⟩ = some u := by
 obtain ⟨a0, a1⟩ := BoxQ.made w v u 26
 obtain ⟨b0, b1⟩ := BoxQ.made (w.alloc (.cells #[v, u] 26)) v u 26
 rw [size1] at b0 b1
 have k := (Keeps.refl (w.alloc (.cells #[v, u] 26))).alloc (.cells #[v, u] 26)
 exact ⟨((Keeps.refl w).alloc _).alloc _, k.cell a0, k.cell a1, b0, b1⟩
set_option maxRecDepth 100000 in
set_option maxHeartbeats 4000000 in
theorem implIsModalTheorem (s : ByteArray) (ss tt : List ByteArray) (v u : Value) (w : World) (hv : Strs w v ss) (hu : Strs w u tt) (hs : Mid ss) (ht : Mid tt) :
  Calls Tryz.prog 12 #[.string s, .agg #[v, u]] w fun e w' => e = .returned (.tuple #[.bool (mtR s ss tt), .int .i64 (srC s ss tt)]) ∧ Keeps w w' := by
 obtain ⟨kA, c0, c1, d0, d1⟩ := seq1 w v u
 have HC := hid (searchableCode_any s ss tt v u (w.heap.size + 1) _ (hv.keeps kA) (hu.keeps kA) hs ht d0 d1)
 have HR : Hid (mtR s ss tt = if srC s ss tt = 0 then mtB s ss tt else false) := hid rfl
 by_cases hz : srC s ss tt = 0
 ·rw [if_pos hz] at HR
  rw [hz] at HC
  rw [HR.out, hz]
  have hk := srC_ok hz
  have HM := hid (fun wz (kz : Keeps w wz) => isModalTheorem_any s ss tt v u wz (hv.keeps kz) (hu.keeps kz) hk)
  change Hid (∀ wz, Keeps w wz → Calls Tryz.prog _ _ wz fun e w' => e = .returned (.bool (mtB s ss tt)) ∧ Keeps wz w') at HM
  obtain ⟨p, c, rfl, _⟩ := hv.shape
  obtain ⟨q, c2, rfl, _⟩ := hu.shape
  clear hv hu hs ht hz hk HR d0 d1
  generalize mtB s ss tt = b at *
  go_enter Tryz.func12, Tryz.ntmps12
  go_wp2_with fail
  refine HC.out.mono ?_; rintro e w2 ⟨rfl, k2⟩
  have e0 := k2.cell c0
  have e1 := k2.cell c1
  go_wp2_with fail
  refine (HM.out _ (kA.trans k2)).mono ?_; rintro e w3 ⟨rfl, k3⟩
  go_wp2_with fail
  go_ret2
  exact ⟨rfl, (kA.trans k2).trans k3⟩
 ·rw [if_neg hz] at HR
  rw [HR.out]
  obtain ⟨p, c, rfl, _⟩ := hv.shape
  obtain ⟨q, c2, rfl, _⟩ := hu.shape
  clear hv hu hs ht HR c0 c1 d0 d1
  generalize srC s ss tt = code at *
  go_enter Tryz.func12, Tryz.ntmps12
  go_wp2_with fail
  refine HC.out.mono ?_; rintro e w2 ⟨rfl, k2⟩
  go_wp2_with fail
  go_ret2
  exact ⟨rfl, kA.trans k2⟩
end Go.Proofs.YtkkcfifnkcnceaaGreat
namespace Go.Proofs.YtkkcfifnkcnceaaGreat
open Go.RowKit
theorem mt_val {ss tt : List ByteArray} (h : isQ ss tt = true) (s : ByteArray) : mtB s ss tt = true ↔ ValS (lgN s) (fmL ss) (fmL tt) := by
 obtain ⟨_, _, hs, ht⟩ := isQ_iff h
 have hG : Fine (fmL (ss ++ tt)) := by rw [fmL_append]; exact (fmL_fine hs).append (fmL_fine ht)
 have hin : ∀ a, a ∈ fmL ss ++ fmL tt → a ∈ subG (fmL (ss ++ tt)) := fun a ha => by rw [fmL_append]; exact List.mem_flatMap.2 ⟨a, ha, subs_self a⟩
 exact thm_val (elP hG) (lgN s) (fun a ha => hin a (List.mem_append_left _ ha)) (fun b hb => hin b (List.mem_append_right _ hb))
theorem val_ax {L : Nat} {A B : List Fm} {a : Fm} (hA : a ∈ A) (hB : a ∈ B) : ValS L A B := fun _ _ _ _ _ hx => ⟨a, hB, hx a hA⟩
theorem val_fls {L : Nat} {A B : List Fm} (hA : Fm.fls ∈ A) : ValS L A B := fun _ _ _ _ _ hx => (hx _ hA).elim
theorem val_cut {L : Nat} {A B A1 B1 A2 B2 : List Fm} {a : Fm} (h1 : ∀ x ∈ A1, x ∈ A) (h2 : ∀ x ∈ B1, x ∈ B ∨ x = a) (h3 : ∀ x ∈ A2, x ∈ A ∨ x = a) (h4 : ∀ x ∈ B2, x ∈ B) (v1 : ValS L A1 B1) (v2 : ValS L A2 B2) : ValS L A B := fun W R V hF x hx => by
 obtain ⟨b, hb, hf⟩ := v1 W R V hF x (fun y hy => hx y (h1 y hy))
 rcases h2 b hb with hb | rfl
 ·exact ⟨b, hb, hf⟩
 ·obtain ⟨c, hc, hg⟩ := v2 W R V hF x (fun y hy => by
   rcases h3 y hy with hy | rfl
   ·exact hx y hy
   ·exact hf)
  exact ⟨c, h4 c hc, hg⟩
theorem val_andL {L : Nat} {A B A1 B1 : List Fm} {a b : Fm} (h : Fm.and a b ∈ A) (h1 : ∀ x ∈ A1, x ∈ A ∨ x = a ∨ x = b) (h2 : ∀ x ∈ B1, x ∈ B) (v1 : ValS L A1 B1) : ValS L A B := fun W R V hF x hx => by
 have hab := hx _ h
 rw [frc] at hab
 obtain ⟨c, hc, hf⟩ := v1 W R V hF x (fun y hy => by
  rcases h1 y hy with hy | rfl | rfl
  ·exact hx y hy
  ·exact hab.1
  ·exact hab.2)
 exact ⟨c, h2 c hc, hf⟩
theorem val_andR {L : Nat} {A B A1 B1 A2 B2 : List Fm} {a b : Fm} (h : Fm.and a b ∈ B) (h1 : ∀ x ∈ A1, x ∈ A) (h2 : ∀ x ∈ B1, x ∈ B ∨ x = a) (h3 : ∀ x ∈ A2, x ∈ A) (h4 : ∀ x ∈ B2, x ∈ B ∨ x = b) (v1 : ValS L A1 B1) (v2 : ValS L A2 B2) : ValS L A B := fun W R V hF x hx => by
 obtain ⟨c, hc, hf⟩ := v1 W R V hF x (fun y hy => hx y (h1 y hy))
 obtain ⟨d, hd, hg⟩ := v2 W R V hF x (fun y hy => hx y (h3 y hy))
 rcases h2 c hc with hc | rfl
 ·exact ⟨c, hc, hf⟩
 ·rcases h4 d hd with hd | rfl
  ·exact ⟨d, hd, hg⟩
  ·exact ⟨_, h, hf, hg⟩
theorem val_orL {L : Nat} {A B A1 B1 A2 B2 : List Fm} {a b : Fm} (h : Fm.or a b ∈ A) (h1 : ∀ x ∈ A1, x ∈ A ∨ x = a) (h2 : ∀ x ∈ B1, x ∈ B) (h3 : ∀ x ∈ A2, x ∈ A ∨ x = b) (h4 : ∀ x ∈ B2, x ∈ B) (v1 : ValS L A1 B1) (v2 : ValS L A2 B2) : ValS L A B := fun W R V hF x hx => by
 have hab := hx _ h
 rw [frc] at hab
 rcases hab with hab | hab
 ·obtain ⟨c, hc, hf⟩ := v1 W R V hF x (fun y hy => by
   rcases h1 y hy with hy | rfl
   ·exact hx y hy
   ·exact hab)
  exact ⟨c, h2 c hc, hf⟩
 ·obtain ⟨c, hc, hf⟩ := v2 W R V hF x (fun y hy => by
   rcases h3 y hy with hy | rfl
   ·exact hx y hy
   ·exact hab)
  exact ⟨c, h4 c hc, hf⟩
theorem val_orR {L : Nat} {A B A1 B1 : List Fm} {a b : Fm} (h : Fm.or a b ∈ B) (h1 : ∀ x ∈ A1, x ∈ A) (h2 : ∀ x ∈ B1, x ∈ B ∨ x = a ∨ x = b) (v1 : ValS L A1 B1) : ValS L A B := fun W R V hF x hx => by
 obtain ⟨c, hc, hf⟩ := v1 W R V hF x (fun y hy => hx y (h1 y hy))
 rcases h2 c hc with hc | rfl | rfl
 ·exact ⟨c, hc, hf⟩
 ·exact ⟨_, h, Or.inl hf⟩
 ·exact ⟨_, h, Or.inr hf⟩
theorem val_impL {L : Nat} {A B A1 B1 A2 B2 : List Fm} {a b : Fm} (h : Fm.imp a b ∈ A) (h1 : ∀ x ∈ A1, x ∈ A) (h2 : ∀ x ∈ B1, x ∈ B ∨ x = a) (h3 : ∀ x ∈ A2, x ∈ A ∨ x = b) (h4 : ∀ x ∈ B2, x ∈ B) (v1 : ValS L A1 B1) (v2 : ValS L A2 B2) : ValS L A B := fun W R V hF x hx => by
 have hab := hx _ h
 rw [frc] at hab
 obtain ⟨c, hc, hf⟩ := v1 W R V hF x (fun y hy => hx y (h1 y hy))
 rcases h2 c hc with hc | rfl
 ·exact ⟨c, hc, hf⟩
 ·obtain ⟨d, hd, hg⟩ := v2 W R V hF x (fun y hy => by
   rcases h3 y hy with hy | rfl
   ·exact hx y hy
   ·exact hab hf)
  exact ⟨d, h4 d hd, hg⟩
theorem val_impR {L : Nat} {A B A1 B1 : List Fm} {a b : Fm} (h : Fm.imp a b ∈ B) (h1 : ∀ x ∈ A1, x ∈ A ∨ x = a) (h2 : ∀ x ∈ B1, x ∈ B ∨ x = b) (v1 : ValS L A1 B1) : ValS L A B := fun W R V hF x hx => by
 by_cases ha : frc R V a x
 ·obtain ⟨c, hc, hf⟩ := v1 W R V hF x (fun y hy => by
   rcases h1 y hy with hy | rfl
   ·exact hx y hy
   ·exact ha)
  rcases h2 c hc with hc | rfl
  ·exact ⟨c, hc, hf⟩
  ·exact ⟨_, h, fun _ => hf⟩
 ·exact ⟨_, h, fun k => (ha k).elim⟩
theorem val_rflL {L : Nat} (hL : L = 2 ∨ L = 4 ∨ L = 6) {A B A1 B1 : List Fm} {a : Fm} (h : Fm.box a ∈ A) (h1 : ∀ x ∈ A1, x ∈ A ∨ x = a) (h2 : ∀ x ∈ B1, x ∈ B) (v1 : ValS L A1 B1) : ValS L A B := fun W R V hF x hx => by
 obtain ⟨c, hc, hf⟩ := v1 W R V hF x (fun y hy => by
  rcases h1 y hy with hy | rfl
  ·exact hx y hy
  ·exact hx _ h x (hF.rfl hL x))
 exact ⟨c, h2 c hc, hf⟩
theorem val_rflR {L : Nat} (hL : L = 2 ∨ L = 4 ∨ L = 6) {A B A1 B1 : List Fm} {a : Fm} (h : Fm.dia a ∈ B) (h1 : ∀ x ∈ A1, x ∈ A) (h2 : ∀ x ∈ B1, x ∈ B ∨ x = a) (v1 : ValS L A1 B1) : ValS L A B := fun W R V hF x hx => by
 obtain ⟨c, hc, hf⟩ := v1 W R V hF x (fun y hy => hx y (h1 y hy))
 rcases h2 c hc with hc | rfl
 ·exact ⟨c, hc, hf⟩
 ·exact ⟨_, h, x, hF.rfl hL x, hf⟩
def isDi : Fm → Bool
 | .dia _ => true
 | _ => false
def KeptL (L : Nat) (A : List Fm) (z : Fm) : Prop := if L = 3 ∨ L = 5 then Fm.box z ∈ A ∨ (z ∈ A ∧ isBx z = true) else if L = 4 then z ∈ A ∧ isBx z = true else if L = 6 then z ∈ A ∧ isMo z = true else Fm.box z ∈ A
def KeptR (L : Nat) (B : List Fm) (z : Fm) : Prop := if L = 3 ∨ L = 5 then Fm.dia z ∈ B ∨ (z ∈ B ∧ isDi z = true) else if L = 4 then z ∈ B ∧ isDi z = true else if L = 6 then z ∈ B ∧ isMo z = true else Fm.dia z ∈ B
theorem box_on {W : Type} {L : Nat} {R : W → W → Prop} {V : W → Nat → Prop} (hF : FrC L R) (hL : L = 3 ∨ L = 4 ∨ L = 5 ∨ L = 6) {x y : W} (r : R x y) {z : Fm} (hz : isBx z = true) (h : frc R V z x) : frc R V z y := by
 cases z <;> simp [isBx] at hz
 exact fun u ru => h u (hF.trs hL x y u r ru)
theorem dia_back {W : Type} {L : Nat} {R : W → W → Prop} {V : W → Nat → Prop} (hF : FrC L R) (hL : L = 3 ∨ L = 4 ∨ L = 5 ∨ L = 6) {x y : W} (r : R x y) {z : Fm} (hz : isDi z = true) (h : frc R V z y) : frc R V z x := by
 cases z <;> simp [isDi] at hz
 obtain ⟨u, ru, hu⟩ := h
 exact ⟨u, hF.trs hL x y u r ru, hu⟩
theorem mo_both {W : Type} {R : W → W → Prop} {V : W → Nat → Prop} (hF : FrC 6 R) {x y : W} (r : R x y) {z : Fm} (hz : isMo z = true) : frc R V z x → frc R V z y := by
 intro h
 cases z <;> simp [isMo] at hz
 ·exact box_on hF (by omega) r rfl h
 ·exact dia_back hF (by omega) (hF.sym (by omega) x y r) rfl h
theorem kept_left {W : Type} {L : Nat} {R : W → W → Prop} {V : W → Nat → Prop} (hF : FrC L R) {A : List Fm} {x y : W} (r : R x y) (hx : ∀ a ∈ A, frc R V a x) {z : Fm} (h : KeptL L A z) : frc R V z y := by
 unfold KeptL at h
 split at h
 ·rename_i hL
  rcases h with h | ⟨h, hz⟩
  ·exact hx _ h y r
  ·exact box_on hF (by omega) r hz (hx _ h)
 ·split at h
  ·exact box_on hF (by omega) r h.2 (hx _ h.1)
  ·split at h
   ·rename_i hL
    subst hL
    exact mo_both hF r h.2 (hx _ h.1)
   ·exact hx _ h y r
theorem kept_right {W : Type} {L : Nat} {R : W → W → Prop} {V : W → Nat → Prop} (hF : FrC L R) {B : List Fm} {x y : W} (r : R x y) {z : Fm} (h : KeptR L B z) (hz : frc R V z y) : ∃ b ∈ B, frc R V b x := by
 unfold KeptR at h
 split at h
 ·rename_i hL
  rcases h with h | ⟨h, hd⟩
  ·exact ⟨_, h, y, r, hz⟩
  ·exact ⟨_, h, dia_back hF (by omega) r hd hz⟩
 ·split at h
  ·exact ⟨_, h.1, dia_back hF (by omega) r h.2 hz⟩
  ·split at h
   ·rename_i hL
    subst hL
    exact ⟨_, h.1, mo_both hF (hF.sym (by omega) x y r) h.2 hz⟩
   ·exact ⟨_, h, y, r, hz⟩
theorem val_box {L : Nat} {A B A1 B1 : List Fm} {a : Fm} (h : Fm.box a ∈ B) (h1 : ∀ z ∈ A1, KeptL L A z ∨ (L = 5 ∧ z = .box a)) (h2 : ∀ z ∈ B1, KeptR L B z ∨ z = a) (v1 : ValS L A1 B1) : ValS L A B := fun W R V hF x hx => by
 refine Classical.byContradiction fun hn => hn ⟨_, h, ?_⟩
 have one : ∀ y, R x y → (L = 5 → frc R V (.box a) y) → frc R V a y := fun y r h5 => by
  obtain ⟨c, hc, hf⟩ := v1 W R V hF y (fun z hz => by
   rcases h1 z hz with hz | ⟨hL, rfl⟩
   ·exact kept_left hF r hx hz
   ·exact h5 hL)
  rcases h2 c hc with hc | rfl
  ·exact (hn (kept_right hF r hc hf)).elim
  ·exact hf
 by_cases hL : L = 5
 ·intro y
  induction y using (hF.wfd hL).induction with
  | _ y ih => exact fun r => one y r fun _ u ru => ih u ru (hF.trs (by omega) x y u r ru)
 ·exact fun y r => one y r fun h => absurd h hL
theorem val_dia {L : Nat} {A B A1 B1 : List Fm} {a : Fm} (h : Fm.dia a ∈ A) (h1 : ∀ z ∈ A1, KeptL L A z ∨ z = a) (h2 : ∀ z ∈ B1, KeptR L B z ∨ (L = 5 ∧ z = .dia a)) (v1 : ValS L A1 B1) : ValS L A B := fun W R V hF x hx => by
 have one : ∀ y, R x y → frc R V a y → (L = 5 → frc R V (.dia a) y → ∃ b ∈ B, frc R V b x) → ∃ b ∈ B, frc R V b x := fun y r ha h5 => by
  obtain ⟨c, hc, hf⟩ := v1 W R V hF y (fun z hz => by
   rcases h1 z hz with hz | rfl
   ·exact kept_left hF r hx hz
   ·exact ha)
  rcases h2 c hc with hc | ⟨hL, rfl⟩
  ·exact kept_right hF r hc hf
  ·exact h5 hL hf
 obtain ⟨y, r, ha⟩ := hx _ h
 by_cases hL : L = 5
 ·have ind : ∀ y, R x y → frc R V a y → ∃ b ∈ B, frc R V b x := by
   intro y
   induction y using (hF.wfd hL).induction with
   | _ y ih => exact fun r ha => one y r ha fun _ ⟨u, ru, hu⟩ => ih u ru (hF.trs (by omega) x y u r ru) hu
  exact ind y r ha
 ·exact one y r ha fun h => absurd h hL
theorem val_ser {A B A1 B1 : List Fm} (h1 : ∀ z ∈ A1, KeptL 1 A z) (h2 : ∀ z ∈ B1, KeptR 1 B z) (v1 : ValS 1 A1 B1) : ValS 1 A B := fun W R V hF x hx => by
 obtain ⟨y, r⟩ := hF.ser rfl x
 obtain ⟨c, hc, hf⟩ := v1 W R V hF y (fun z hz => kept_left hF r hx (h1 z hz))
 exact kept_right hF r (h2 c hc) hf
end Go.Proofs.YtkkcfifnkcnceaaGreat
namespace Go.Proofs.YtkkcfifnkcnceaaGreat
open Go.RowKit
def txS (t : Fm) : ByteArray := mkS t.body
theorem txS_eq {s : ByteArray} {t : Fm} (h : bts s = t.body) : s = txS t := bts_inj (h.trans (bts_mkS _).symm)
theorem txS_tx {t : Fm} (hw : t.wf) (hl : t.enc.length ≤ 40) : IsTx (txS t) t := ⟨hw, bts_mkS _, hl⟩
end Go.Proofs.YtkkcfifnkcnceaaGreat
namespace Go.Proofs.YtkkcfifnkcnceaaGreat
open Go.RowKit
theorem putL_ins {ss : List ByteArray} (h : Asc (ss.map bts)) (s : ByteArray) : putL ss [s] = insS ss s := by
 apply map_bts_inj
 rw [insS_bts]
 have e : (putL ss [s]).map bts = sortB ((ss ++ [s]).map bts) := by simp [putL, Function.comp_def, bts_mkS]
 rw [e]
 refine Asc.ext (sortB_asc _) (insB_asc _ h) fun z => ?_
 rw [sortB_iff, insB_mem]
 simp
def remS (ss : List ByteArray) (s : ByteArray) : List ByteArray := ss.filter fun u => decide (u ≠ s)
def uniS (ss tt : List ByteArray) : List ByteArray := tt.foldl insS ss
noncomputable def kdS (p : Fm → Bool) (ss : List ByteArray) : List ByteArray := ss.filter fun s => p (txF s)
noncomputable def ofS (p : Fm → Bool) (ss : List ByteArray) : List ByteArray := (kdS p ss).foldl (fun out s => insS out (txS (below (txF s)))) []
noncomputable def kepS (L : Nat) (p : Fm → Bool) (ss : List ByteArray) (main : ByteArray) : List ByteArray :=
 if L = 3 ∨ L = 5 then uniS (ofS p ss) (kdS p ss) else if L = 4 then kdS p ss else if L = 6 then remS (uniS (kdS isBx ss) (kdS isDi ss)) main else ofS p ss
theorem fmL_mem {ss : List ByteArray} {x : Fm} : x ∈ fmL ss ↔ ∃ s ∈ ss, txF s = x := by unfold fmL; rw [List.mem_map]
theorem insS_in {ss : List ByteArray} {s u : ByteArray} : u ∈ insS ss s ↔ u ∈ ss ∨ u = s := by
 have h := insS_mem (ss := ss) (s := s) (z := bts u)
 constructor
 ·intro hu
  rcases h.1 (List.mem_map.2 ⟨u, hu, rfl⟩) with h1 | h1
  ·obtain ⟨t, ht, e⟩ := List.mem_map.1 h1
   rw [bts_inj e] at ht; exact .inl ht
  ·exact .inr (bts_inj h1)
 ·intro hu
  have : bts u ∈ (insS ss s).map bts := h.2 (by
   rcases hu with hu | rfl
   ·exact .inl (List.mem_map.2 ⟨u, hu, rfl⟩)
   ·exact .inr rfl)
  obtain ⟨t, ht, e⟩ := List.mem_map.1 this
  rw [bts_inj e] at ht; exact ht
theorem uniS_in {tt : List ByteArray} {u : ByteArray} : ∀ {ss : List ByteArray}, u ∈ uniS ss tt ↔ u ∈ ss ∨ u ∈ tt := by
 induction tt with
 | nil => intro ss; simp [uniS]
 | cons t tt ih =>
  intro ss
  have := ih (ss := insS ss t)
  unfold uniS at this ⊢
  rw [List.foldl_cons, this, insS_in, List.mem_cons]
  exact ⟨fun h => by rcases h with (h | h) | h <;> simp [h], fun h => by rcases h with h | h | h <;> simp [h]⟩
theorem fm_ins {ss : List ByteArray} {s : ByteArray} {x : Fm} (h : x ∈ fmL (insS ss s)) : x ∈ fmL ss ∨ x = txF s := by
 obtain ⟨u, hu, rfl⟩ := fmL_mem.1 h
 rcases insS_in.1 hu with hu | rfl
 ·exact .inl (fmL_mem.2 ⟨u, hu, rfl⟩)
 ·exact .inr rfl
theorem fm_rem {ss : List ByteArray} {s : ByteArray} {x : Fm} (h : x ∈ fmL (remS ss s)) : x ∈ fmL ss := by
 obtain ⟨u, hu, rfl⟩ := fmL_mem.1 h
 exact fmL_mem.2 ⟨u, (List.mem_filter.1 hu).1, rfl⟩
theorem fm_uni {ss tt : List ByteArray} {x : Fm} (h : x ∈ fmL (uniS ss tt)) : x ∈ fmL ss ∨ x ∈ fmL tt := by
 obtain ⟨u, hu, rfl⟩ := fmL_mem.1 h
 rcases uniS_in.1 hu with hu | hu
 ·exact .inl (fmL_mem.2 ⟨u, hu, rfl⟩)
 ·exact .inr (fmL_mem.2 ⟨u, hu, rfl⟩)
theorem fm_kd {p : Fm → Bool} {ss : List ByteArray} {x : Fm} (h : x ∈ fmL (kdS p ss)) : x ∈ fmL ss ∧ p x = true := by
 obtain ⟨u, hu, rfl⟩ := fmL_mem.1 h
 have := List.mem_filter.1 hu
 exact ⟨fmL_mem.2 ⟨u, this.1, rfl⟩, this.2⟩
theorem fold_in {f : ByteArray → ByteArray} {u : ByteArray} : ∀ (l : List ByteArray) (out : List ByteArray), u ∈ l.foldl (fun out s => insS out (f s)) out ↔ u ∈ out ∨ ∃ s ∈ l, u = f s
 | [], out => by simp
 | s :: l, out => by
  rw [List.foldl_cons, fold_in l, insS_in]
  constructor
  ·rintro ((h | h) | ⟨s', hs, e⟩)
   ·exact .inl h
   ·exact .inr ⟨s, by simp, h⟩
   ·exact .inr ⟨s', List.mem_cons_of_mem _ hs, e⟩
  ·rintro (h | ⟨s', hs, e⟩)
   ·exact .inl (.inl h)
   ·rcases List.mem_cons.1 hs with rfl | hs
    ·exact .inl (.inr e)
    ·exact .inr ⟨s', hs, e⟩
theorem side_tx {ss : List ByteArray} (h : Side ss) {s : ByteArray} (hs : s ∈ ss) : IsTx s (txF s) := txF_tx (h.1 s hs)
theorem txF_below {ss : List ByteArray} (h : Side ss) {s : ByteArray} (hs : s ∈ ss) {y : Fm} (hy : y ∈ subs (txF s)) : txF (txS y) = y := by
 have := side_tx h hs
 exact txF_eq (txS_tx (subs_wf this.1 y hy) (Nat.le_trans (subs_le y hy) this.2.2))
theorem fm_of_bx {ss : List ByteArray} (hS : Side ss) {x : Fm} (h : x ∈ fmL (ofS isBx ss)) : Fm.box x ∈ fmL ss := by
 obtain ⟨u, hu, rfl⟩ := fmL_mem.1 h
 rcases (fold_in _ _).1 hu with hu | ⟨s, hs, rfl⟩
 ·simp at hu
 ·obtain ⟨h1, h2⟩ := List.mem_filter.1 hs
  cases e : txF s <;> rw [e] at h2 <;> simp [isBx] at h2
  rename_i a
  have : txF (txS a) = a := txF_below hS h1 (by rw [e]; simp [subs, subs_self])
  show Fm.box (txF (txS a)) ∈ _
  rw [this]
  exact fmL_mem.2 ⟨s, h1, e⟩
theorem fm_of_di {ss : List ByteArray} (hS : Side ss) {x : Fm} (h : x ∈ fmL (ofS isDi ss)) : Fm.dia x ∈ fmL ss := by
 obtain ⟨u, hu, rfl⟩ := fmL_mem.1 h
 rcases (fold_in _ _).1 hu with hu | ⟨s, hs, rfl⟩
 ·simp at hu
 ·obtain ⟨h1, h2⟩ := List.mem_filter.1 hs
  cases e : txF s <;> rw [e] at h2 <;> simp [isDi] at h2
  rename_i a
  have : txF (txS a) = a := txF_below hS h1 (by rw [e]; simp [subs, subs_self])
  show Fm.dia (txF (txS a)) ∈ _
  rw [this]
  exact fmL_mem.2 ⟨s, h1, e⟩
theorem isMo_bx {z : Fm} (h : isBx z = true) : isMo z = true := by cases z <;> simp_all [isBx, isMo]
theorem isMo_di {z : Fm} (h : isDi z = true) : isMo z = true := by cases z <;> simp_all [isDi, isMo]
theorem kep_left {L : Nat} {ss : List ByteArray} (hS : Side ss) {main : ByteArray} {z : Fm} (h : z ∈ fmL (kepS L isBx ss main)) : KeptL L (fmL ss) z := by
 unfold kepS at h
 unfold KeptL
 split
 ·rename_i c
  rw [if_pos c] at h
  rcases fm_uni h with h | h
  ·exact .inl (fm_of_bx hS h)
  ·exact .inr (fm_kd h)
 ·rename_i c
  rw [if_neg c] at h
  split
  ·rename_i c4
   rw [if_pos c4] at h
   exact fm_kd h
  ·rename_i c4
   rw [if_neg c4] at h
   split
   ·rename_i c6
    rw [if_pos c6] at h
    rcases fm_uni (fm_rem h) with h | h
    ·exact ⟨(fm_kd h).1, isMo_bx (fm_kd h).2⟩
    ·exact ⟨(fm_kd h).1, isMo_di (fm_kd h).2⟩
   ·rename_i c6
    rw [if_neg c6] at h
    exact fm_of_bx hS h
theorem kep_right {L : Nat} {ss : List ByteArray} (hS : Side ss) {main : ByteArray} {z : Fm} (h : z ∈ fmL (kepS L isDi ss main)) : KeptR L (fmL ss) z := by
 unfold kepS at h
 unfold KeptR
 split
 ·rename_i c
  rw [if_pos c] at h
  rcases fm_uni h with h | h
  ·exact .inl (fm_of_di hS h)
  ·exact .inr (fm_kd h)
 ·rename_i c
  rw [if_neg c] at h
  split
  ·rename_i c4
   rw [if_pos c4] at h
   exact fm_kd h
  ·rename_i c4
   rw [if_neg c4] at h
   split
   ·rename_i c6
    rw [if_pos c6] at h
    rcases fm_uni (fm_rem h) with h | h
    ·exact ⟨(fm_kd h).1, isMo_bx (fm_kd h).2⟩
    ·exact ⟨(fm_kd h).1, isMo_di (fm_kd h).2⟩
   ·rename_i c6
    rw [if_neg c6] at h
    exact fm_of_di hS h
end Go.Proofs.YtkkcfifnkcnceaaGreat
