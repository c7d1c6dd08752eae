/- The readers of both sides read each formula's text: the functions that parse a text. -/
import Derived.Test.YtjmpiedjhdogeaaP4
import Derived.Test.YtjmpiedjhdogeaaP5
namespace Go.Proofs.Ytjmpiedjhdogeaa
open Go.RowKit
theorem isFls_eq {b : Fm} (h : b.isFls = true) : b = .fls := by cases b <;> simp [Fm.isFls] at h <;> rfl
theorem lev3_cases {P : Fm → List UInt8 → Prop} (t : Fm) (hw : t.wf) (hl : t.lev = 3)
    (hv : ∀ v, v < 6 → P (.var v) [UInt8.ofNat (112 + v)]) (hf : P .fls [70]) (ht : P (.imp .fls .fls) [84])
    (hn : ∀ a, a.wf → a.enc.length < (Fm.imp a .fls).enc.length → P (.imp a .fls) (126 :: a.txt 3))
    (hb : ∀ a, a.wf → a.enc.length < (Fm.box a).enc.length → P (.box a) (91 :: 93 :: a.txt 3))
    (hd : ∀ a, a.wf → a.enc.length < (Fm.dia a).enc.length → P (.dia a) (60 :: 62 :: a.txt 3))
    : (∀ x : Fm, x.wf → x.enc.length < t.enc.length → True) → P t t.body := by
  intro _
  cases t with
  | var v => exact hv v hw
  | fls => exact hf
  | and a b => simp [Fm.lev] at hl
  | or a b => simp [Fm.lev] at hl
  | imp a b =>
    have hbf : b.isFls = true := by
      simp only [Fm.lev] at hl; split at hl
      · assumption
      · omega
    obtain rfl := isFls_eq hbf
    by_cases ha : a.isFls = true
    · obtain rfl := isFls_eq ha
      exact ht
    · have := hn a hw.1 (by simp only [Fm.enc, List.length_cons, List.length_append]; omega)
      have hb2 : (Fm.imp a .fls).body = 126 :: a.txt 3 := by
        show (if Fm.fls.isFls = true then (if a.isFls = true then [84] else _) else _) = _
        rw [if_pos (show Fm.fls.isFls = true from rfl), if_neg ha]
        rfl
      rw [hb2]
      exact this
  | box a => exact hb a hw (by simp only [Fm.enc, List.length_cons]; omega)
  | dia a => exact hd a hw (by simp only [Fm.enc, List.length_cons]; omega)
theorem RdAt.new (w : World) (s : ByteArray) (T : TypeId) (hs : s.size ≤ 2147483648) : RdAt (w.alloc (.cells #[.string s, .int .i64 0, .bool false] T)) w.heap.size s 0 false :=
  ⟨by simp, by simp, by simp, by simp, by simp, Nat.zero_le _, hs⟩
end Go.Proofs.Ytjmpiedjhdogeaa
