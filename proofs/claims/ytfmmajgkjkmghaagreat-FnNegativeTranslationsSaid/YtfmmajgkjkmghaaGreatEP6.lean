import Derived.Test.YtfmmajgkjkmghaaGreatEPS
import Derived.Test.YtfmmajgkjkmghaaGreatEVS
import Derived.Test.YtfmmajgkjkmghaaGreatEK1
import Derived.Test.YtfmmajgkjkmghaaGreatEP3
import Derived.Test.YtfmmajgkjkmghaaGreatEP4
import Derived.Test.YtfmmajgkjkmghaaGreatEM3
/- Lists of formulas in the reference's decider: equality, membership, additions, what follows at once. -/
namespace Go.Proofs.YtfmmajgkjkmghaaGreat
open Go.RowKit
end Go.Proofs.YtfmmajgkjkmghaaGreat
namespace Go.Proofs.YtfmmajgkjkmghaaGreat
open Go.RowKit
open Classical in
noncomputable def sqB (G : List Fm) (c : Fm) : Bool := decide (Sq G c)
theorem sqB_iff {G : List Fm} {c : Fm} : sqB G c = true ↔ Sq G c := by unfold sqB; exact @decide_eq_true_iff _ (Classical.propDecidable _)
theorem sqB_true {G : List Fm} {c : Fm} (h : Sq G c) : sqB G c = true := sqB_iff.2 h
theorem sqB_false {G : List Fm} {c : Fm} (h : ¬ Sq G c) : sqB G c = false := by
 cases hb : sqB G c with
 | false => rfl
 | true => exact absurd (sqB_iff.1 hb) h
theorem sqB_congr {G H : List Fm} {c d : Fm} (h : Sq G c ↔ Sq H d) : sqB G c = sqB H d := by
 by_cases hs : Sq G c
 ·rw [sqB_true hs, sqB_true (h.1 hs)]
 ·rw [sqB_false hs, sqB_false (fun k => hs (h.2 k))]
end Go.Proofs.YtfmmajgkjkmghaaGreat
namespace Go.Proofs.YtfmmajgkjkmghaaGreat
open Go.RowKit
theorem Nds.lenIs {w : World} {p : Option Addr} {n cap : Nat} {a : List Nd} (h : Nds w (.slice p n cap) a) : n = a.length := by
 obtain ⟨_, _, e, _⟩ := h
 cases e
 rfl
noncomputable def smallB (n : Nat) (G : List Fm) (c : Fm) : Bool := if 20 < n then false else sqB G c
def smallE (n : Nat) : Int := if 20 < n then 3 else 0
theorem not_len (t : Fm) : t.not.enc.length = t.enc.length + 2 := by simp [Fm.not, Fm.enc]
end Go.Proofs.YtfmmajgkjkmghaaGreat
namespace Go.Proofs.YtfmmajgkjkmghaaGreat
open Go.RowKit
end Go.Proofs.YtfmmajgkjkmghaaGreat
namespace Go.Proofs.YtfmmajgkjkmghaaGreat
open Go.RowKit
def Txts (ss : List ByteArray) (G : List Fm) : Prop := ss.map bts = G.map Fm.body
theorem Txts.length {ss : List ByteArray} {G : List Fm} (h : Txts ss G) : ss.length = G.length := by
 have := congrArg List.length h
 simpa using this
theorem Txts.append {ss tt : List ByteArray} {G H : List Fm} (h : Txts ss G) (k : Txts tt H) : Txts (ss ++ tt) (G ++ H) := by
 unfold Txts at *; rw [List.map_append, List.map_append, h, k]
theorem Txts.get {ss : List ByteArray} {G : List Fm} (h : Txts ss G) (i : Nat) (h1 : i < ss.length) (h2 : i < G.length) : bts ss[i] = G[i].body := by
 have e : (ss.map bts)[i]? = (G.map Fm.body)[i]? := by rw [h]
 simpa [h1, h2] using e
end Go.Proofs.YtfmmajgkjkmghaaGreat
namespace Go.Proofs.YtfmmajgkjkmghaaGreat
open Go.RowKit
theorem isFls_eq {b : Fm} (h : b.isFls = true) : b = .fls := by cases b <;> simp [Fm.isFls] at h <;> rfl
theorem lev3_cases {P : Fm → List UInt8 → Prop} (t : Fm) (hw : t.wf) (hl : t.lev = 3)
  (hv : ∀ v, v < 6 → P (.var v) [UInt8.ofNat (112 + v)]) (hf : P .fls [70]) (ht : P (.imp .fls .fls) [84])
  (hn : ∀ a, a.wf → a.enc.length < (Fm.imp a .fls).enc.length → P (.imp a .fls) (126 :: a.txt 3))
  (hb : ∀ a, a.wf → a.enc.length < (Fm.box a).enc.length → P (.box a) (91 :: 93 :: a.txt 3))
  (hd : ∀ a, a.wf → a.enc.length < (Fm.dia a).enc.length → P (.dia a) (60 :: 62 :: a.txt 3))
  : (∀ x : Fm, x.wf → x.enc.length < t.enc.length → True) → P t t.body := by
 intro _
 cases t with
 | var v => exact hv v hw
 | fls => exact hf
 | and a b => simp [Fm.lev] at hl
 | or a b => simp [Fm.lev] at hl
 | imp a b =>
  have hbf : b.isFls = true := by
   simp only [Fm.lev] at hl; split at hl
   ·assumption
   ·omega
  obtain rfl := isFls_eq hbf
  by_cases ha : a.isFls = true
  ·obtain rfl := isFls_eq ha
   exact ht
  ·have := hn a hw.1 (by simp only [Fm.enc, List.length_cons, List.length_append]; omega)
   have hb2 : (Fm.imp a .fls).body = 126 :: a.txt 3 := by
    show (if Fm.fls.isFls = true then (if a.isFls = true then [84] else _) else _) = _
    rw [if_pos (show Fm.fls.isFls = true from rfl), if_neg ha]
    rfl
   rw [hb2]
   exact this
 | box a => exact hb a hw (by simp only [Fm.enc, List.length_cons]; omega)
 | dia a => exact hd a hw (by simp only [Fm.enc, List.length_cons]; omega)
theorem implReads (t : Fm) (hw : t.wf) : Reads 230 0 t t.body := by
 have := (reads_all (fun l t X => Reads (match l with | 0 => 230 | 1 => 252 | 2 => 265 | _ => 270) l t X)
  (fun t hw hl hs => by
   have hs' : ∀ x : Fm, x.wf → x.enc.length < t.enc.length → Reads 270 3 x (x.txt 3) := hs
   clear hs
   refine lev3_cases (P := fun u X => (∀ x : Fm, x.wf → x.enc.length < u.enc.length → Reads 270 3 x (x.txt 3)) → Reads 270 3 u X) t hw hl
    (fun v hv _ => iVar v hv) (fun _ => iFls) (fun _ => iTru) (fun a h1 h2 h => iNot a (h a h1 h2)) (fun a h1 h2 h => iBox a (h a h1 h2)) (fun a h1 h2 h => iDia a (h a h1 h2)) (fun _ _ _ => trivial) hs')
  (fun t h => iPar t h) (fun x0 xs h hs => iAnd x0 xs h hs) (fun x0 xs h hs => iOr x0 xs h hs) (fun t X h => iImply0 t X h) (fun a b h1 h2 => iImply1 a b h1 h2) t.enc.length t (Nat.le_refl _) hw).1
 rw [Fm.txt0] at this
 exact this
theorem specReads (t : Fm) (hw : t.wf) : Reads 193 0 t t.body := by
 have := (reads_all (fun l t X => Reads (match l with | 0 => 193 | 1 => 212 | 2 => 228 | _ => 251) l t X)
  (fun t hw hl hs => by
   have hs' : ∀ x : Fm, x.wf → x.enc.length < t.enc.length → Reads 251 3 x (x.txt 3) := hs
   clear hs
   refine lev3_cases (P := fun u X => (∀ x : Fm, x.wf → x.enc.length < u.enc.length → Reads 251 3 x (x.txt 3)) → Reads 251 3 u X) t hw hl
    (fun v hv _ => sVar v hv) (fun _ => sPrefix _ _ (.inl ⟨rfl, rfl⟩)) (fun _ => sPrefix _ _ (.inr (.inl ⟨rfl, rfl⟩))) (fun a h1 h2 h => sPrefix _ _ (.inr (.inr (.inl ⟨a, rfl, rfl, h a h1 h2⟩))))
    (fun a h1 h2 h => sPrefix _ _ (.inr (.inr (.inr (.inl ⟨a, rfl, rfl, h a h1 h2⟩))))) (fun a h1 h2 h => sPrefix _ _ (.inr (.inr (.inr (.inr (.inl ⟨a, rfl, rfl, h a h1 h2⟩)))))) (fun _ _ _ => trivial) hs')
  (fun t h => sPrefix t _ (.inr (.inr (.inr (.inr (.inr ⟨rfl, h⟩)))))) (fun x0 xs h hs => sAnd x0 xs h hs) (fun x0 xs h hs => sOr x0 xs h hs) (fun t X h => sImply0 t X h) (fun a b h1 h2 => sImply1 a b h1 h2) t.enc.length t (Nat.le_refl _) hw).1
 rw [Fm.txt0] at this
 exact this
theorem RdAt.new (w : World) (s : ByteArray) (T : TypeId) (hs : s.size ≤ 2147483648) : RdAt (w.alloc (.cells #[.string s, .int .i64 0, .bool false] T)) w.heap.size s 0 false :=
 ⟨by simp, by simp, by simp, by simp, by simp, Nat.zero_le _, hs⟩
set_option maxRecDepth 20000 in
set_option maxHeartbeats 1000000 in
theorem l02Read_any (t : Fm) (hw : t.wf) (s : ByteArray) (w : World) (hb : bts s = t.body) (hs : s.size ≤ 2147483648) (hl : t.enc.length ≤ 100000000) :
  Calls Tryz.prog 158 #[.string s] w fun e w' => ∃ v, e = .returned (.tuple #[v, .int .i64 (-1)]) ∧ OwnN w' w.heap.size v t.enc ∧ Keeps w w' := by
 have h0 := RdAt.new w s 148 hs
 have hlen : t.body.length = s.size := by rw [← hb]; show s.data.toList.length = s.data.size; simp
 have HR := hid (specReads t hw _ _ s 0 [] h0 (by simpa using hb) ⟨fun _ => by simp, fun _ => by simp, fun _ => by simp⟩ hl)
 have hlt : decide ((s.size : Int) < s.size) = false := by simp
 have k0 := (Keeps.refl w).alloc (.cells #[.string s, .int .i64 0, .bool false] 148)
 have HL := hid hlen; clear hlen
 clear hb h0
 go_enter Tryz.func158, Tryz.ntmps158
 go_wp2_with fail
 refine HR.out.mono ?_; rintro e w1 ⟨v1, rfl, hv1, h1, g1⟩
 rw [Nat.zero_add, HL.out] at h1
 have kw := k0.grown g1 (fun k hk => by cases hk; exact Nat.le_refl _)
 obtain ⟨c0, c1, c2, f1, f2, le, sz⟩ := h1
 go_wp2_with fail
 go_ret2
 exact ⟨_, rfl, hv1.mono (by simp), kw⟩
end Go.Proofs.YtfmmajgkjkmghaaGreat
