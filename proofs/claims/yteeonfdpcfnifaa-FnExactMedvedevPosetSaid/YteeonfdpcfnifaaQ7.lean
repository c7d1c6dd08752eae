/- Walks: Medvedev's posets on both sides. -/
import Derived.Test.YteeonfdpcfnifaaQ5
import Derived.Test.YteeonfdpcfnifaaQ3
namespace Go.Proofs.Yteeonfdpcfnifaa
open Go.RowKit

def maskS (x : Nat) : Nat → Int
  | 0 => 0
  | y + 1 => if (bits .andNot .i64 ((y : Int) + 1) (x : Int) == 0) = true then bits .or .i64 (maskS x y) (2 ^ y) else maskS x y
def medvL : Nat → List Int
  | 0 => []
  | x + 1 => medvL x ++ [maskS (x + 1) (x + 1)]
theorem medvL_length (n : Nat) : (medvL n).length = n := by
  induction n with
  | zero => rfl
  | succ n ih => simp [medvL, ih]
def medvR (M i j : Nat) : List Int := (List.range M).map fun t => if t < i then maskS (t + 1) M else if t = i then maskS (t + 1) j else 0
theorem medvR_length (M i j : Nat) : (medvR M i j).length = M := by simp [medvR]
theorem medvR_step (M i j : Nat) (u : Int) (hu : u = maskS (i + 1) (j + 1)) : (medvR M i j).set i u = medvR M i (j + 1) := by
  subst hu
  apply List.ext_getElem
  · simp [medvR]
  · intro t h1 h2
    simp only [medvR, List.getElem_set, List.getElem_map, List.getElem_range]
    by_cases h : i = t
    · subst h; simp
    · simp [h, Ne.symm h]
theorem medvR_next (M i : Nat) : medvR M i M = medvR M (i + 1) 0 := by
  unfold medvR
  refine List.map_congr_left fun t _ => ?_
  by_cases h : t < i
  · simp [h, Nat.lt_succ_of_lt h]
  · by_cases h2 : t = i
    · subst h2; simp
    · have : ¬ t < i + 1 := by omega
      simp [h, h2, this, maskS]
theorem medvR_get (M i j : Nat) (h : i < (medvR M i j).length) : (medvR M i j)[i] = maskS (i + 1) j := by simp [medvR]
theorem medvR_start (M : Nat) : medvR M 0 0 = List.replicate M 0 := by
  unfold medvR
  apply List.ext_getElem
  · simp
  · intro t h1 h2
    simp
    intro h; subst h; rfl
theorem medvR_end : ∀ M : Nat, M ≤ 7 → medvR M M 0 = medvL M := by
  have : ∀ j : Fin 8, medvR j j 0 = medvL j := by decide +kernel
  exact fun M h => this ⟨M, by omega⟩
theorem pow_small (m : Nat) (h1 : 1 ≤ m) (h3 : m ≤ 3) : ∃ M : Nat, M ≤ 7 ∧ 2 ^ m - 1 = M ∧ (2 : Int) ^ m - 1 = M := by
  have : m = 1 ∨ m = 2 ∨ m = 3 := by omega
  rcases this with rfl | rfl | rfl
  · exact ⟨1, by omega, rfl, rfl⟩
  · exact ⟨3, by omega, rfl, rfl⟩
  · exact ⟨7, by omega, rfl, rfl⟩
--
set_option maxHeartbeats 1000000 in
theorem specMedvedevPoset_any (n : Int) (w : World) : Calls Try.prog 16 #[.int .i64 n] w (RetPE w (if 1 ≤ n ∧ n ≤ 3 then medvL (2 ^ n.toNat - 1) else []) (if 1 ≤ n ∧ n ≤ 3 then 0 else 2)) := by
  have kA := (Keeps.refl w).alloc (.cells #[.int .i64 0, .slice none 0 0] 24)
  by_cases hi : 1 ≤ n ∧ n ≤ 3
  · rw [if_pos hi, if_pos hi]
    have hin : inR n 1 3 = true := by simp [inR]; omega
    obtain ⟨h0, h8⟩ := hi
    obtain ⟨m, rfl⟩ := Int.eq_ofNat_of_zero_le (show 0 ≤ n by omega)
    simp only [Int.toNat_natCast]
    obtain ⟨M, hM7, hM, hMi⟩ := pow_small m (by omega) (by omega)
    rw [hM]
    have hF := fun w => l01Full_any (m : Int) w (by omega) (by omega)
    simp only [Int.toNat_natCast, hMi] at hF
    have HF := hid hF; clear hF
    clear hM hMi
    have hE := OwnI.empty (w.alloc (.cells #[.int .i64 0, .slice none 0 0] 24))
    have hlen := medvL_length
    have HL := hid hlen; clear hlen
    go_enter Try.func16, Try.ntmps16
    go_wp2_with fail
    refine (l01In_any _ _ _ _).mono ?_
    rintro e w' ⟨rfl, rfl⟩
    rw [hin]
    go_wp2_with fail
    go_loopw [4, 5] (fun v x wr => ∃ i : Nat, i ≤ M ∧ x = .int .i64 ((i : Int) + 1) ∧ OwnI wr (w.heap.size + 1) v (medvL i) ∧ Keeps (w.alloc (.cells #[.int .i64 0, .slice none 0 0] 24)) wr) (fun _ x _ => M + 1 - (intOf x).toNat)
    case atStart => exact ⟨0, by omega, rfl, by simpa [medvL] using hE, (Keeps.refl _).alloc _⟩
    case round =>
      obtain ⟨i, hiM, rfl, hown, kw⟩ := hrel
      have hsz := kw.size
      simp at hsz
      have hlk : (medvL i).length ≤ 8 := by have := HL.out i; omega
      clear hE
      by_cases hlt : i < M
      · have hle : (i : Int) + 1 ≤ M := by omega
        go_wp2_with fail
        refine (HF.out _).mono ?_
        rintro e w' ⟨rfl, rfl⟩
        go_wp2_with fail
        go_loopw [6, 7] (fun mk y wr' => ∃ j : Nat, j ≤ i + 1 ∧ y = .int .i64 ((j : Int) + 1) ∧ mk = .int .i64 (maskS (i + 1) j) ∧ wr' = wr) (fun _ y _ => i + 2 - (intOf y).toNat)
        case atStart => exact ⟨0, by omega, rfl, rfl, rfl⟩
        case round =>
          obtain ⟨j, hj, rfl, rfl, rfl⟩ := hrel
          by_cases hjt : j < i + 1
          · have hle2 : (j : Int) ≤ (i : Int) := by omega
            have h1 := l01One_any (j : Int) wr (by omega) (by omega)
            simp only [Int.toNat_natCast] at h1
            have H1 := hid h1; clear h1
            by_cases hb : (bits .andNot .i64 ((j : Int) + 1) ((i : Int) + 1) == 0) = true
            · have hs : maskS (i + 1) (j + 1) = bits .or .i64 (maskS (i + 1) j) (2 ^ j) := by
                show (if _ then _ else _) = _
                rw [if_pos (by simpa using hb)]
              have HS := hid hs; clear hs
              go_wp2_with fail
              refine H1.out.mono ?_
              rintro e w' ⟨rfl, rfl⟩
              go_wp2_with fail
              go_roundw
              case rel => exact ⟨j + 1, by omega, by go_num, by rw [HS.out], by trivial⟩
              case measure => simp [intOf]; omega
            · have hb' : (bits .andNot .i64 ((j : Int) + 1) ((i : Int) + 1) == 0) = false := by simpa using hb
              have hs : maskS (i + 1) (j + 1) = maskS (i + 1) j := by
                show (if _ then _ else _) = _
                rw [if_neg (by simpa using hb)]
              have HS := hid hs; clear hs hb
              go_wp2_with fail
              go_roundw
              case rel => exact ⟨j + 1, by omega, by go_num, by rw [HS.out], by trivial⟩
              case measure => simp [intOf]; omega
          · obtain rfl : j = i + 1 := by omega
            have hle2 : ¬ (((i + 1 : Nat) : Int) + 1 ≤ (i : Int) + 1) := by omega
            have hs : medvL (i + 1) = medvL i ++ [maskS (i + 1) (i + 1)] := rfl
            generalize maskS (i + 1) (i + 1) = P1 at *
            have HS := hid hs; clear hs
            go_wp2_with (at_builtin; refine appI rfl _ _ rfl (w.heap.size + 1) _ (medvL i) rfl (hown.keeps ((Keeps.refl wr).alloc _)) _ [P1] rfl (Ints.lit1 wr P1) (by simp; omega) (by simp; omega) ?_; intro v1 w1 hv1 hg1 hr1; have k2 := (kw.alloc (.cells #[.int .i64 P1] 2)).grown hg1 (by simpa using hr1))
            go_roundw
            case rel => exact ⟨i + 1, by omega, by go_num, by rw [HS.out]; exact hv1, k2⟩
            case measure => simp [intOf]; omega
      · obtain rfl : i = M := by omega
        have hle : ¬ ((i : Int) + 1 ≤ i) := by omega
        go_wp2_with fail
        refine (HF.out _).mono ?_
        rintro e w' ⟨rfl, rfl⟩
        go_wp2_with fail
        refine (l16Make_any _ _ _ (hown.ints (by omega))).mono ?_
        rintro e w2 ⟨v2, rfl, hv2, k2⟩
        obtain ⟨p2, c2, rfl, _⟩ := hv2.ints (by omega)
        rw [HL.out] at *
        obtain ⟨hc2, hf2⟩ := (kw.trans k2).both
        have hB : w.heap.size < wr.heap.size := by omega
        go_wp2_with fail
        refine bodyPost_ret (v := .tuple #[.agg #[.int .i64 i, .slice p2 i c2], .int .i64 0]) (by simp [results, Try.results16, go_sem, hc2]) rfl ?_
        exact ⟨.slice p2 i c2, by rw [HL.out], ((hv2.setBelow hB _).setBelow hB _).mono (by omega), ((kA.trans (kw.trans k2)).setCell (Nat.le_refl _) _).setCell (Nat.le_refl _) _⟩
  · rw [if_neg hi, if_neg hi]
    have hin : inR n 1 3 = false := by simp [inR]; omega
    go_enter Try.func16, Try.ntmps16
    go_wp2_with fail
    refine (l01In_any _ _ _ _).mono ?_
    rintro e w' ⟨rfl, rfl⟩
    rw [hin]
    go_wp2_with fail
    refine bodyPost_ret (v := .tuple #[.agg #[.int .i64 0, .slice none 0 0], .int .i64 2]) (by simp [results, Try.results16, go_sem]) rfl ?_
    refine ⟨.slice none 0 0, rfl, OwnI.nil _ _, ?_⟩
    first | exact (Keeps.refl w).alloc _ | exact ((kA).setCell (Nat.le_refl _) _).setCell (Nat.le_refl _) _
--
set_option maxHeartbeats 1000000 in
theorem implMedvedevPoset_any (n : Int) (w : World) : Calls Try.prog 17 #[.int .i64 n] w (RetPE w (if 1 ≤ n ∧ n ≤ 3 then medvL (2 ^ n.toNat - 1) else []) (if 1 ≤ n ∧ n ≤ 3 then 0 else 2)) := by
  have kA := (Keeps.refl w).alloc (.cells #[.int .i64 0, .slice none 0 0] 24)
  by_cases hi : 1 ≤ n ∧ n ≤ 3
  · rw [if_pos hi, if_pos hi]
    have hin : inR n 1 3 = true := by simp [inR]; omega
    obtain ⟨h0, h8⟩ := hi
    obtain ⟨m, rfl⟩ := Int.eq_ofNat_of_zero_le (show 0 ≤ n by omega)
    simp only [Int.toNat_natCast]
    obtain ⟨M, hM7, hM, hMi⟩ := pow_small m (by omega) (by omega)
    rw [hM]
    clear hM
    have e1 : IntKind.i64.wrap (2 ^ m) = 2 ^ m := by
      have : ∀ j : Fin 63, IntKind.i64.wrap ((2 : Int) ^ (j : Nat)) = (2 : Int) ^ (j : Nat) := by decide +kernel
      exact this ⟨m, by omega⟩
    have e3 : IntKind.i64.wrap ((2 : Int) ^ m - 1) = M := by
      rw [hMi]
      have : ∀ j : Fin 8, IntKind.i64.wrap ((j : Nat) : Int) = ((j : Nat) : Int) := by decide +kernel
      exact this ⟨M, by omega⟩
    obtain ⟨wm, hmk, hown0, km⟩ := run_makeI (w.alloc (.cells #[.int .i64 0, .slice none 0 0] 24)) M (by omega)
    rw [← medvR_start] at hown0
    have hsw : (w.alloc (.cells #[.int .i64 0, .slice none 0 0] 24)).heap.size = w.heap.size + 1 := by simp
    rw [hsw] at hmk hown0
    have HO0 := hid hown0; clear hown0
    clear hMi
    go_enter Try.func17, Try.ntmps17
    go_wp2_with fail
    refine (inRange_any _ _ _ _).mono ?_
    rintro e w' ⟨rfl, rfl⟩
    rw [hin]
    go_wp2_with fail
    clear e1 e3 hmk hsw
    go_loopw [18] (fun x wr => ∃ i : Nat, i ≤ M ∧ x = .int .i64 i ∧ OwnI wr (w.heap.size + 1) (.slice (some ⟨w.heap.size + 1, 0, none⟩) M M) (medvR M i 0) ∧ Keeps (w.alloc (.cells #[.int .i64 0, .slice none 0 0] 24)) wr) (fun x _ => M - (intOf x).toNat)
    case atStart => exact ⟨0, by omega, rfl, HO0.out, km⟩
    case round =>
      obtain ⟨i, hiM, rfl, hown, kw⟩ := hrel
      have hsz := kw.size
      simp at hsz
      by_cases hlt : i < M
      · go_wp2_with fail
        have HO := hid hown; clear hown
        have KW := hid kw; clear kw
        go_loopw [22] (fun y wr' => ∃ j : Nat, j ≤ M ∧ y = .int .i64 j ∧ OwnI wr' (w.heap.size + 1) (.slice (some ⟨w.heap.size + 1, 0, none⟩) M M) (medvR M i j) ∧ Keeps (w.alloc (.cells #[.int .i64 0, .slice none 0 0] 24)) wr') (fun y _ => M - (intOf y).toNat)
        case atStart => exact ⟨0, by omega, rfl, HO.out, KW.out⟩
        case round =>
          obtain ⟨j, hj, rfl, hownj, kwj⟩ := hrel
          clear HO KW
          by_cases hjt : j < M
          · by_cases hb : (bits .andNot .i64 ((j : Int) + 1) ((i : Int) + 1) == 0) = true
            · have hlr : i < (medvR M i j).length := by rw [medvR_length]; exact hlt
              have hdr : OwnI wr.drew (w.heap.size + 1) (.slice (some ⟨w.heap.size + 1, 0, none⟩) M M) (medvR M i j) := hownj.keeps ((Keeps.refl _).drew)
              obtain ⟨c1, c3⟩ := hownj.cell i hlr
              rw [medvR_get] at c1
              have e1 : IntKind.i64.wrap (2 ^ j) = 2 ^ j := by
                have : ∀ j : Fin 63, IntKind.i64.wrap ((2 : Int) ^ (j : Nat)) = (2 : Int) ^ (j : Nat) := by decide +kernel
                exact this ⟨j, by omega⟩
              have hu : bits .or .i64 (maskS (i + 1) j) (2 ^ j) = maskS (i + 1) (j + 1) := by
                show _ = (if _ then _ else _)
                rw [if_pos (by simpa using hb)]
              have hst := hdr.store i hlr (bits .or .i64 (maskS (i + 1) j) (2 ^ j))
              rw [medvR_step _ _ _ _ hu] at hst
              have HST := hid hst; clear hst
              have KW := hid kwj; clear kwj
              clear hownj hdr hu
              go_wp2_with fail
              refine (within_any _ _ _).mono ?_
              rintro e w' ⟨rfl, rfl⟩
              rw [hb]
              go_wp2_with fail
              have hsz' := KW.out.size
              simp at hsz'
              have hir : (i : Int) < M := by omega
              go_region
              go_wp2
              go_roundw
              case rel => exact ⟨j + 1, by omega, by go_num, HST.out.1, (Keeps.drew KW.out).grown HST.out.2 (fun k hk => by cases hk; simp)⟩
              case measure => simp [intOf]; omega
            · have hb' : (bits .andNot .i64 ((j : Int) + 1) ((i : Int) + 1) == 0) = false := by simpa using hb
              have hs : maskS (i + 1) (j + 1) = maskS (i + 1) j := by
                show (if _ then _ else _) = _
                rw [if_neg (by simpa using hb)]
              have hown1 : OwnI wr (w.heap.size + 1) (.slice (some ⟨w.heap.size + 1, 0, none⟩) M M) (medvR M i (j + 1)) := by
                have h : medvR M i (j + 1) = medvR M i j := by
                  unfold medvR
                  refine List.map_congr_left fun t _ => ?_
                  by_cases h : t < i
                  · simp [h]
                  · by_cases h2 : t = i
                    · subst h2; simp [hs]
                    · simp [h, h2]
                rw [h]; exact hownj
              have HST := hid hown1; clear hown1 hs hb hownj
              have KW := hid kwj; clear kwj
              go_wp2_with fail
              refine (within_any _ _ _).mono ?_
              rintro e w' ⟨rfl, rfl⟩
              rw [hb']
              go_wp2_with fail
              go_roundw
              case rel => exact ⟨j + 1, by omega, by go_num, HST.out, KW.out⟩
              case measure => simp [intOf]; omega
          · obtain rfl : j = M := by omega
            rw [medvR_next] at hownj
            go_wp2_with fail
            go_roundw
            case rel => exact ⟨i + 1, by omega, by go_num, hownj, kwj⟩
            case measure => simp [intOf]; omega
      · obtain rfl : i = M := by omega
        rw [medvR_end _ hM7] at hown
        go_wp2_with fail
        refine (posetOf_any _ _ _ (hown.ints (by rw [medvL_length]; omega))).mono ?_
        rintro e w2 ⟨rfl, k2⟩
        have hv2 := hown.keeps k2
        rw [medvL_length] at *
        obtain ⟨hc2, hf2⟩ := (kw.trans k2).both
        have hB : w.heap.size < wr.heap.size := by omega
        go_wp2_with fail
        refine bodyPost_ret (v := .tuple #[.agg #[.int .i64 i, .slice (some ⟨w.heap.size + 1, 0, none⟩) i i], .int .i64 0]) (by simp [results, Try.results17, go_sem, hc2]) rfl ?_
        exact ⟨.slice (some ⟨w.heap.size + 1, 0, none⟩) i i, by rw [medvL_length], ((hv2.setBelow (by omega) _).setBelow (by omega) _).mono (by omega), ((kA.trans (kw.trans k2)).setCell (Nat.le_refl _) _).setCell (Nat.le_refl _) _⟩
  · rw [if_neg hi, if_neg hi]
    have hin : inR n 1 3 = false := by simp [inR]; omega
    go_enter Try.func17, Try.ntmps17
    go_wp2_with fail
    refine (inRange_any _ _ _ _).mono ?_
    rintro e w' ⟨rfl, rfl⟩
    rw [hin]
    go_wp2_with fail
    refine bodyPost_ret (v := .tuple #[.agg #[.int .i64 0, .slice none 0 0], .int .i64 2]) (by simp [results, Try.results17, go_sem]) rfl ?_
    refine ⟨.slice none 0 0, rfl, OwnI.nil _ _, ?_⟩
    first | exact (Keeps.refl w).alloc _ | exact ((kA).setCell (Nat.le_refl _) _).setCell (Nat.le_refl _) _
end Go.Proofs.Yteeonfdpcfnifaa
