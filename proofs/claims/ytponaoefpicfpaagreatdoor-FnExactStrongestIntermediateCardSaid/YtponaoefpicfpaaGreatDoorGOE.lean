/- LogicsOfPoset: both sides. -/
import Derived.Test.YtponaoefpicfpaaGreatDoorGOD
import Derived.Test.YtponaoefpicfpaaGreatDoorGLS
namespace Go.Proofs.YtponaoefpicfpaaGreatDoor
open Go.RowKit
/-- the logics of an order -/
def logL (b : List Nat) : List ByteArray := ((List.range 9).filter (ofK b)).map nameK
theorem findS_data (name : ByteArray) : findS names9 name = idxOf (fun s => s.data.toList == name.data.toList) names9 0 := by
  unfold findS; congr 1; funext s; rw [ByteArray.toList_eq, ByteArray.toList_eq]
theorem find9_tab : ∀ k : Fin 9, idxOf (fun s => s.data.toList == (nameK k).data.toList) names9 0 = ((k : Nat) : Int) := by decide +kernel
theorem find9_at {k : Nat} (hk : k < 9) : findS names9 (nameK k) = k := by rw [findS_data]; exact find9_tab ⟨k, hk⟩
theorem names9_map : names9 = (List.range 9).map nameK := rfl
/-- the closure's answer -/
def dropQ (b : List Nat) (x : ByteArray) : Bool := !ofK b (findS names9 x).toNat
theorem dropQ_at (b : List Nat) {k : Nat} (hk : k < 9) : dropQ b (nameK k) = !ofK b k := by unfold dropQ; rw [find9_at hk]; rfl
theorem logL_eq (b : List Nat) : (names9.filter fun x => !dropQ b x) = logL b := by
  unfold logL
  rw [names9_map, List.filter_map]
  congr 1
  apply List.filter_congr
  intro k hk
  show (!dropQ b (nameK k)) = _
  rw [dropQ_at b (List.mem_range.1 hk), Bool.not_not]
theorem logL_len (b : List Nat) : (logL b).length ≤ 9 := by
  unfold logL
  rw [List.length_map]
  exact Nat.le_trans (List.length_filter_le _ _) (by simp)
def logT (b : List Nat) (k : Nat) : List ByteArray := ((List.range k).filter (ofK b)).map nameK
theorem logT_succ (b : List Nat) (k : Nat) : logT b (k + 1) = if ofK b k then logT b k ++ [nameK k] else logT b k := by
  unfold logT
  rw [List.range_succ, List.filter_append]
  by_cases h : ofK b k <;> simp [h]
theorem logT_len (b : List Nat) (k : Nat) : (logT b k).length ≤ k := by
  unfold logT
  rw [List.length_map]
  exact Nat.le_trans (List.length_filter_le _ _) (by simp)
theorem nameK_mem {x : ByteArray} (h : x ∈ names9) : ∃ k, k < 9 ∧ x = nameK k := by
  rw [names9_map] at h
  obtain ⟨k, hk, rfl⟩ := List.mem_map.1 h
  exact ⟨k, List.mem_range.1 hk, rfl⟩
/-- a fresh list of strings -/
def RetSS (w : World) (r : List ByteArray) (e : Ending) (w' : World) : Prop := ∃ v, e = .returned v ∧ OwnS w' w.heap.size v r ∧ Keeps w w'
--
theorem namesIx (i : Nat) (w : World) (hi : i < 9) : (Instr.index 101 (.agg #[.string ⟨#[66, 68, 50]⟩, .string ⟨#[66, 68, 51]⟩, .string ⟨#[66, 87, 50]⟩, .string ⟨#[66, 87, 51]⟩, .string ⟨#[67, 76]⟩, .string ⟨#[73, 110, 116]⟩, .string ⟨#[75, 67]⟩, .string ⟨#[76, 67]⟩, .string ⟨#[83, 109, 76]⟩]) (.int .i64 i)).run Tryz.prog w = .ok (.string (nameK i)) w := by
  have e0 : (Instr.index 101 (.agg #[.string ⟨#[66, 68, 50]⟩, .string ⟨#[66, 68, 51]⟩, .string ⟨#[66, 87, 50]⟩, .string ⟨#[66, 87, 51]⟩, .string ⟨#[67, 76]⟩, .string ⟨#[73, 110, 116]⟩, .string ⟨#[75, 67]⟩, .string ⟨#[76, 67]⟩, .string ⟨#[83, 109, 76]⟩]) (.int .i64 0)).run Tryz.prog w = .ok (.string ⟨#[66, 68, 50]⟩) w := by kernel_rfl
  have e1 : (Instr.index 101 (.agg #[.string ⟨#[66, 68, 50]⟩, .string ⟨#[66, 68, 51]⟩, .string ⟨#[66, 87, 50]⟩, .string ⟨#[66, 87, 51]⟩, .string ⟨#[67, 76]⟩, .string ⟨#[73, 110, 116]⟩, .string ⟨#[75, 67]⟩, .string ⟨#[76, 67]⟩, .string ⟨#[83, 109, 76]⟩]) (.int .i64 1)).run Tryz.prog w = .ok (.string ⟨#[66, 68, 51]⟩) w := by kernel_rfl
  have e2 : (Instr.index 101 (.agg #[.string ⟨#[66, 68, 50]⟩, .string ⟨#[66, 68, 51]⟩, .string ⟨#[66, 87, 50]⟩, .string ⟨#[66, 87, 51]⟩, .string ⟨#[67, 76]⟩, .string ⟨#[73, 110, 116]⟩, .string ⟨#[75, 67]⟩, .string ⟨#[76, 67]⟩, .string ⟨#[83, 109, 76]⟩]) (.int .i64 2)).run Tryz.prog w = .ok (.string ⟨#[66, 87, 50]⟩) w := by kernel_rfl
  have e3 : (Instr.index 101 (.agg #[.string ⟨#[66, 68, 50]⟩, .string ⟨#[66, 68, 51]⟩, .string ⟨#[66, 87, 50]⟩, .string ⟨#[66, 87, 51]⟩, .string ⟨#[67, 76]⟩, .string ⟨#[73, 110, 116]⟩, .string ⟨#[75, 67]⟩, .string ⟨#[76, 67]⟩, .string ⟨#[83, 109, 76]⟩]) (.int .i64 3)).run Tryz.prog w = .ok (.string ⟨#[66, 87, 51]⟩) w := by kernel_rfl
  have e4 : (Instr.index 101 (.agg #[.string ⟨#[66, 68, 50]⟩, .string ⟨#[66, 68, 51]⟩, .string ⟨#[66, 87, 50]⟩, .string ⟨#[66, 87, 51]⟩, .string ⟨#[67, 76]⟩, .string ⟨#[73, 110, 116]⟩, .string ⟨#[75, 67]⟩, .string ⟨#[76, 67]⟩, .string ⟨#[83, 109, 76]⟩]) (.int .i64 4)).run Tryz.prog w = .ok (.string ⟨#[67, 76]⟩) w := by kernel_rfl
  have e5 : (Instr.index 101 (.agg #[.string ⟨#[66, 68, 50]⟩, .string ⟨#[66, 68, 51]⟩, .string ⟨#[66, 87, 50]⟩, .string ⟨#[66, 87, 51]⟩, .string ⟨#[67, 76]⟩, .string ⟨#[73, 110, 116]⟩, .string ⟨#[75, 67]⟩, .string ⟨#[76, 67]⟩, .string ⟨#[83, 109, 76]⟩]) (.int .i64 5)).run Tryz.prog w = .ok (.string ⟨#[73, 110, 116]⟩) w := by kernel_rfl
  have e6 : (Instr.index 101 (.agg #[.string ⟨#[66, 68, 50]⟩, .string ⟨#[66, 68, 51]⟩, .string ⟨#[66, 87, 50]⟩, .string ⟨#[66, 87, 51]⟩, .string ⟨#[67, 76]⟩, .string ⟨#[73, 110, 116]⟩, .string ⟨#[75, 67]⟩, .string ⟨#[76, 67]⟩, .string ⟨#[83, 109, 76]⟩]) (.int .i64 6)).run Tryz.prog w = .ok (.string ⟨#[75, 67]⟩) w := by kernel_rfl
  have e7 : (Instr.index 101 (.agg #[.string ⟨#[66, 68, 50]⟩, .string ⟨#[66, 68, 51]⟩, .string ⟨#[66, 87, 50]⟩, .string ⟨#[66, 87, 51]⟩, .string ⟨#[67, 76]⟩, .string ⟨#[73, 110, 116]⟩, .string ⟨#[75, 67]⟩, .string ⟨#[76, 67]⟩, .string ⟨#[83, 109, 76]⟩]) (.int .i64 7)).run Tryz.prog w = .ok (.string ⟨#[76, 67]⟩) w := by kernel_rfl
  have e8 : (Instr.index 101 (.agg #[.string ⟨#[66, 68, 50]⟩, .string ⟨#[66, 68, 51]⟩, .string ⟨#[66, 87, 50]⟩, .string ⟨#[66, 87, 51]⟩, .string ⟨#[67, 76]⟩, .string ⟨#[73, 110, 116]⟩, .string ⟨#[75, 67]⟩, .string ⟨#[76, 67]⟩, .string ⟨#[83, 109, 76]⟩]) (.int .i64 8)).run Tryz.prog w = .ok (.string ⟨#[83, 109, 76]⟩) w := by kernel_rfl
  have h9 : i = 0 ∨ i = 1 ∨ i = 2 ∨ i = 3 ∨ i = 4 ∨ i = 5 ∨ i = 6 ∨ i = 7 ∨ i = 8 := by omega
  rcases h9 with rfl | rfl | rfl | rfl | rfl | rfl | rfl | rfl | rfl
  · exact e0
  · exact e1
  · exact e2
  · exact e3
  · exact e4
  · exact e5
  · exact e6
  · exact e7
  · exact e8
set_option maxRecDepth 20000 in
set_option maxHeartbeats 1000000 in
theorem allNames_any (w : World) (hL : LaidS 1 names9 w) : Calls Tryz.prog 118 #[] w (RetSS w names9) := by
  have c0 := hL 0 (by decide)
  have c1 := hL 1 (by decide)
  have c2 := hL 2 (by decide)
  have c3 := hL 3 (by decide)
  have c4 := hL 4 (by decide)
  have c5 := hL 5 (by decide)
  have c6 := hL 6 (by decide)
  have c7 := hL 7 (by decide)
  have c8 := hL 8 (by decide)
  clear hL
  simp only [names9, List.getElem_cons_zero, List.getElem_cons_succ] at c0 c1 c2 c3 c4 c5 c6 c7 c8
  have HIX := hid namesIx
  have HTK : Hid (∀ i, i < 9 → names9.take (i + 1) = names9.take i ++ [nameK i]) := hid (fun i hi => by
    rw [List.take_succ_eq_append_getElem (show i < names9.length from hi)]
    congr 2
    unfold nameK
    rw [List.getD_eq_getElem?_getD, List.getElem?_eq_getElem (show i < names9.length from hi)]; rfl)
  have HLN : Hid (∀ i, (names9.take i).length ≤ 9) := hid (fun i => by rw [List.length_take]; exact Nat.min_le_right _ _)
  have HFIN : Hid (names9.take 9 = names9) := hid rfl
  go_enter Tryz.func118, Tryz.ntmps118
  go_wp2
  go_loopw [1, 5] (fun o i' wr => ∃ i : Nat, i ≤ 9 ∧ i' = .int .i64 i ∧ OwnS wr w.heap.size o (names9.take i) ∧ Keeps w wr) (fun _ i' _ => 9 - (intOf i').toNat)
  case atStart => exact ⟨0, by omega, rfl, OwnS.nil w _, Keeps.refl w⟩
  case round =>
    obtain ⟨i, hi, rfl, hown, kw⟩ := hrel
    clear c0 c1 c2 c3 c4 c5 c6 c7 c8
    by_cases hlt : i < 9
    · have hlt' : (i : Int) < 9 := by omega
      have hix := HIX.out i wr hlt
      have hT := HTK.out i hlt
      have HT := hid hT; clear hT
      have hll := HLN.out i
      have hsz := kw.size
      generalize hL : names9.take i = L at *
      have HL := hid hL; clear hL
      generalize nameK i = x at *
      go_wp2_with (at_builtin; refine appS rfl _ _ rfl w.heap.size _ L rfl (hown.keeps ((Keeps.refl wr).alloc _)) _ [x] rfl (Strs.lit1 wr _) (by simp; omega) (by simp; omega) ?_; intro v3 w3 hv3 hg3 hr3; have k3 := (kw.alloc (.cells #[.string x] 9)).grown hg3 (fun q hq => hr3 q hq))
      go_roundw
      case rel => exact ⟨i + 1, by omega, by go_num, by rw [HT.out]; exact hv3, k3⟩
      case measure => simp [intOf]; omega
    · obtain rfl : i = 9 := by omega
      rw [HFIN.out] at hown
      have hlt' : ¬ ((9 : Nat) : Int) < 9 := by omega
      go_wp2
      go_ret
      exact ⟨_, rfl, hown, kw⟩
--
set_option maxRecDepth 20000 in
theorem logics_1_any (b : List Nat) (hp : Pos b) (x : ByteArray) (hx : x ∈ names9) (B : Nat) (v : Value) (w : World) (hv : Ints w v (zs b))
    (c0 : w.cell? ⟨B, 0, none⟩ = some (.int .i64 b.length)) (c1 : w.cell? ⟨B, 1, none⟩ = some v) :
    Calls Tryz.prog 119 #[.string x, .pointer (some ⟨B, 0, none⟩)] w fun e w' => e = .returned (.bool (dropQ b x)) ∧ Keeps w w' := by
  obtain ⟨k, hk, rfl⟩ := nameK_mem hx
  have HO := hid (isOf_any b hp k hk v w hv)
  have HQ := hid (dropQ_at b hk)
  obtain ⟨p, cap, rfl, _⟩ := hv
  clear hx hp
  generalize ofK b k = r at *
  generalize nameK k = nm at *
  go_enter Tryz.func119, Tryz.ntmps119
  go_wp2_with fail
  refine HO.out.mono ?_; rintro e w2 ⟨rfl, k2⟩
  go_wp2_with fail
  go_ret
  exact ⟨ret_bool (by rw [HQ.out]), k2⟩
theorem enters_logics_1 : Enters 119 := fun _ _ => by kernel_rfl
--
set_option maxRecDepth 20000 in
theorem logics_any (b : List Nat) (hp : Pos b) (v : Value) (w : World) (hv : Ints w v (zs b)) (hL : LaidS 1 names9 w) :
    Calls Tryz.prog 47 #[.agg #[.int .i64 b.length, v]] w (RetSS w (logL b)) := by
  have kA := (Keeps.refl w).alloc (.cells #[.int .i64 b.length, v] 32)
  obtain ⟨c0, c1⟩ := BoxF.made w b.length v 32
  have HN := hid (allNames_any _ (hL.keeps kA))
  have HD := hid (fun g cap wz (ho : OwnS wz (w.alloc (.cells #[.int .i64 b.length, v] 32)).heap.size (.slice (some ⟨g, 0, none⟩) names9.length cap) names9) (kz : Keeps (w.alloc (.cells #[.int .i64 b.length, v] 32)) wz) =>
    deleteFuncSK (dropQ b) 119 #[.pointer (some ⟨w.heap.size, 0, none⟩)] names9 g cap _ wz ho kz (by show 9 ≤ _; omega) enters_logics_1
      (fun x w1 hx k1 => logics_1_any b hp x hx w.heap.size v w1 (hv.keeps (kA.trans k1)) (k1.cell c0) (k1.cell c1)))
  rw [logL_eq] at HD
  obtain ⟨p, cap, rfl, _⟩ := hv
  have hs := kA.size
  have h9 : names9.length = 9 := rfl
  rw [h9] at HD
  clear hp hL h9
  go_enter Tryz.func47, Tryz.ntmps47
  go_wp2_with fail
  refine HN.out.mono ?_; rintro e w2 ⟨v2, rfl, hv2, k2⟩
  obtain ⟨g, q, rfl, _⟩ := hv2.shape (show 0 < names9.length by decide)
  have HD2 := hid (HD.out g q w2 hv2 k2)
  rw [show names9.length = 9 from rfl] at *
  clear hv2
  go_wp2_with fail
  refine HD2.out.mono ?_; rintro e w3 ⟨v3, rfl, hv3, k3⟩
  go_wp2_with fail
  go_ret
  exact ⟨_, rfl, hv3.mono hs, kA.trans k3⟩
--
set_option maxRecDepth 20000 in
set_option maxHeartbeats 1000000 in
theorem l30Logics_any (b : List Nat) (hp : Pos b) (v : Value) (w : World) (hv : Ints w v (zs b)) :
    Calls Tryz.prog 42 #[.agg #[.int .i64 b.length, v]] w (RetSS w (logL b)) := by
  have kA := (Keeps.refl w).alloc (.cells #[.int .i64 b.length, v] 32)
  obtain ⟨c0, c1⟩ := BoxF.made w b.length v 32
  have HO := hid (fun k wz (hk : k < 9) (kz : Keeps w wz) => l30Of_any b hp k hk v wz (hv.keeps kz))
  have HS := hid (logT_succ b)
  have HLN := hid (logT_len b)
  have HFIN : Hid (logT b 9 = logL b) := hid rfl
  have H0 : Hid (logT b 0 = []) := hid rfl
  have hG : ∀ (k : Nat) (h : k < names9.length), names9[k] = nameK k := fun k h => by
    unfold nameK
    rw [List.getD_eq_getElem?_getD, List.getElem?_eq_getElem h]; rfl
  have HG := hid hG; clear hG
  obtain ⟨p, cap, rfl, _⟩ := hv
  have kB := kA.alloc (.cells #[] 9)
  have HNM := hid (l30Names_any ((w.alloc (.cells #[.int .i64 b.length, .slice p (zs b).length cap] 32)).alloc (.cells #[] 9)))
  replace c0 := ((Keeps.refl _).alloc (.cells #[] 9)).cell c0
  replace c1 := ((Keeps.refl _).alloc (.cells #[] 9)).cell c1
  clear hp
  go_enter Tryz.func42, Tryz.ntmps42
  go_wp2_with fail
  refine HNM.out.mono ?_; rintro e w2 ⟨v2, rfl, hv2, k2⟩
  obtain ⟨p2, q2, rfl, hle2, hmx2, hlen2⟩ := hv2.shape
  have kk := kB.trans k2
  replace c0 := k2.cell c0
  replace c1 := k2.cell c1
  have HV2 := hid hv2; clear hv2
  unfold maxLen at hmx2
  rw [show names9.length = 9 from rfl] at *
  go_wp2
  go_loopw [3, 5] (fun o i' wr => ∃ i : Nat, i ≤ 9 ∧ i' = .int .i64 i ∧ ((o = .slice (some ⟨w.heap.size + 1, 0, none⟩) 0 0 ∧ logT b i = []) ∨ OwnS wr w2.heap.size o (logT b i)) ∧ Keeps w2 wr) (fun _ i' _ => 9 - (intOf i').toNat)
  case atStart => exact ⟨0, by omega, rfl, .inl ⟨by simp, H0.out⟩, Keeps.refl _⟩
  case round =>
    obtain ⟨i, hi, rfl, hoi, kw⟩ := hrel
    have kkw := kk.trans kw
    by_cases hlt : i < 9
    · have hlt' : (i : Int) < 9 := by omega
      have kd := (Keeps.refl wr).drew
      obtain ⟨b1, o1, rfl, h1⟩ := (HV2.out.keeps kw).get i hlt
      rw [HG.out i hlt] at h1
      have d0 := kd.cell (kw.cell c0)
      have d1 := kd.cell (kw.cell c1)
      have d2 := kd.cell h1
      have HOi := hid (HO.out i wr.drew hlt (kkw.trans kd))
      have hs := HS.out i
      have hll := HLN.out i
      have hsz := kkw.size
      cases hr : ofK b i
      · rw [hr] at HOi hs
        have HSs : Hid (logT b (i + 1) = logT b i) := hid (by rw [hs]; rfl)
        clear hr hs
        generalize hL : logT b i = L at *
        have HL := hid hL; clear hL
        generalize nameK i = x at *
        go_wp2_with fail
        go_region_held3 (fun w' => w'.cell? ⟨w.heap.size, 0, none⟩ = some (.int .i64 b.length) ∧ w'.cell? ⟨w.heap.size, 1, none⟩ = some (.slice p (zs b).length cap) ∧ w'.cell? ⟨b1, o1 + i, none⟩ = some (.string x)) (first | exact ⟨d0, d1, d2⟩ | exact ⟨y0, y1, y2⟩) (first | (go_at_call 44; refine HOi.out.mono ?_; rintro e w4 ⟨rfl, k4⟩; have y0 := k4.cell d0; have y1 := k4.cell d1; have y2 := k4.cell d2))
        go_wp2_with fail
        go_roundw
        case rel => exact ⟨i + 1, by omega, by go_num, by rw [HSs.out]; exact hoi.imp id (fun h => h.keeps (kd.trans k4)), (kw.trans kd).trans k4⟩
        case measure => simp [intOf]; omega
      · rw [hr] at HOi hs
        have HSs : Hid (logT b (i + 1) = logT b i ++ [nameK i]) := hid (by rw [hs]; rfl)
        clear hr hs
        generalize hL : logT b i = L at *
        have HL := hid hL; clear hL
        generalize nameK i = x at *
        go_wp2_with fail
        go_region_held3 (fun w' => w'.cell? ⟨w.heap.size, 0, none⟩ = some (.int .i64 b.length) ∧ w'.cell? ⟨w.heap.size, 1, none⟩ = some (.slice p (zs b).length cap) ∧ w'.cell? ⟨b1, o1 + i, none⟩ = some (.string x)) (first | exact ⟨d0, d1, d2⟩ | exact ⟨y0, y1, y2⟩) (first | (go_at_call 44; refine HOi.out.mono ?_; rintro e w4 ⟨rfl, k4⟩; have y0 := k4.cell d0; have y1 := k4.cell d1; have y2 := k4.cell d2))
        have kw4 := (kw.trans kd).trans k4
        have hs4 := kw4.size
        rcases hoi with ⟨rfl, hL0⟩ | hoi
        · go_wp2_with (at_builtin; refine appSF rfl _ _ rfl _ rfl _ [x] rfl (Strs.lit1 w4 _) (by simp) (by simp) ?_; intro v3 w3 hv3 kq)
          go_roundw
          case rel => exact ⟨i + 1, by omega, by go_num, .inr (by rw [HSs.out, hL0]; exact hv3.mono (by simp; omega)), (kw4.alloc _).trans kq⟩
          case measure => simp [intOf]; omega
        · have ho4 := hoi.keeps (kd.trans k4)
          clear hoi
          go_wp2_with (at_builtin; refine appS rfl _ _ rfl w2.heap.size _ L rfl (ho4.keeps ((Keeps.refl w4).alloc _)) _ [x] rfl (Strs.lit1 w4 _) (by simp; omega) (by simp; omega) ?_; intro v3 w3 hv3 hg3 hr3; have k3 := (kw4.alloc (.cells #[.string x] 9)).grown hg3 (fun q hq => hr3 q hq))
          go_roundw
          case rel => exact ⟨i + 1, by omega, by go_num, .inr (by rw [HSs.out]; exact hv3), k3⟩
          case measure => simp [intOf]; omega
    · obtain rfl : i = 9 := by omega
      rw [HFIN.out] at hoi
      have hlt' : ¬ ((9 : Nat) : Int) < 9 := by omega
      have hfin : ∀ o, ((o = .slice (some ⟨w.heap.size + 1, 0, none⟩) 0 0 ∧ logL b = []) ∨ OwnS wr w2.heap.size o (logL b)) → OwnS wr w.heap.size o (logL b) := by
        intro o ho
        rcases ho with ⟨rfl, h0⟩ | h
        · rw [h0]
          have hE := OwnS.empty (w.alloc (.cells #[.int .i64 b.length, .slice p (zs b).length cap] 32))
          have := (hE.keeps (k2.trans kw)).mono (kA.size)
          simpa using this
        · exact h.mono kk.size
      have hfo := hfin _ hoi
      clear hoi hfin
      go_wp2
      go_ret
      exact ⟨_, rfl, hfo, kkw⟩
end Go.Proofs.YtponaoefpicfpaaGreatDoor
