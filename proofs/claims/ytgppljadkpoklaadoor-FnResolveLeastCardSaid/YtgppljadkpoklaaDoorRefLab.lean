/- The pages of labels, by the program and by the reference. -/
import Derived.Test.YtgppljadkpoklaaDoorRefS
namespace Go.Proofs.YtgppljadkpoklaaDoor
open Go.RowKit
set_option maxHeartbeats 2000000
set_option maxRecDepth 100000

theorem make_ten (w : World) : ∃ w1, (Instr.makeSlice 24 (.int .i64 10) (.int .i64 10)).run Tryd.prog w = .ok (.slice (some ⟨w.heap.size, 0, none⟩) 10 10) w1 ∧ w1.ownsRow w.heap.size 3 1 (.slice (some ⟨w.heap.size, 0, none⟩) 10 10) 10 ((List.replicate 10 (0 : Int)).map (Value.int .i64)) ∧ Below w.heap.size w w1 := by
  obtain ⟨i0, hi, hz0, hz1, hz2⟩ := info_parts intInfo
  obtain ⟨w1, hmk, hown, hgrow⟩ := run_make_full (P := Tryd.prog) w w.heap.size 24 3 i0 (.int .i64 0) 1 Tryd.underlying24 hi hz0 hz1 .i64 .i64 10 (by rw [hz2]; omega) (by unfold maxLen; omega) (Nat.le_refl _)
  refine ⟨w1, hmk, ?_, (Below.refl _ _).grown hgrow (Nat.le_refl _) (fun k hk => by simp at hk)⟩
  have e0 : (madeCells (Value.int .i64 0).cells (10 * 1)).toList = (List.replicate 10 (0 : Int)).map (Value.int .i64) := by
    show (madeCells #[Value.int .i64 0] _).toList = _
    rw [toList_madeCells_one]; simp
  rw [e0] at hown
  exact hown

theorem lab_set {w wr : World} {g : Nat} {M : List Int} (_hM : M.length = 10) (h : wr.ownsRow w.heap.size 3 1 (.slice (some ⟨g, 0, none⟩) 10 10) 10 (M.map (Value.int .i64))) (l : Nat) (x : Int) :
    (wr.setCell ⟨g, l, none⟩ (.int .i64 x)).ownsRow w.heap.size 3 1 (.slice (some ⟨g, 0, none⟩) 10 10) 10 ((M.set l x).map (Value.int .i64)) := by
  have := (h.stored l (.int .i64 x)).1
  rw [← List.map_set] at this
  exact this

theorem labelPages_any (v u : Value) (B : List Blk) (P : List Int) (w : World) (h : SlB w v B) (hu : SlI w u P) (hB : okB B = true) (hP : P.length = B.length) :
    Calls Tryd.prog 46 #[v, u] w (GaveI (lpF B P B.length) w) := by
  have HW := Lib.hid h
  have HU := Lib.hid hu
  obtain ⟨a, cap, rfl, h1, h2, _⟩ := h
  obtain ⟨ap, cp, rfl⟩ : ∃ a c, u = .slice a B.length c := by obtain ⟨a, c, e, _⟩ := hu; rw [hP] at e; exact ⟨a, c, e⟩
  have hcp : B.length ≤ cp ∧ cp ≤ maxLen := by obtain ⟨_, _, e, h1, h2, _⟩ := hu; injection e with _ _ e; subst e; rw [hP] at h1; exact ⟨h1, h2⟩
  unfold maxLen at h2 hcp
  have hBl := (okB_at hB).1
  have HC : Hid (∀ k, k < B.length → ∃ b off, a = some ⟨b, off, none⟩ ∧ b < w.heap.size ∧ ∀ i, i < B.length → w.cell? ⟨b, off + i * 3, none⟩ = some (.int .i64 (bl B i)) ∧ w.cell? ⟨b, off + i * 3 + 1, none⟩ = some (.int .i64 (bb B i)) ∧ w.cell? ⟨b, off + i * 3 + 2, none⟩ = some (.int .i64 (br B i))) := fun k hk => (HW.out.cells (by omega)).2
  have HCp : Hid (∀ k, k < B.length → ∃ b off, ap = some ⟨b, off, none⟩ ∧ b < w.heap.size ∧ ∀ i, i < B.length → w.cell? ⟨b, off + i, none⟩ = some (.int .i64 (P.getD i 0))) := fun k hk => HU.out.cells (by omega)
  have HLb := Lib.hid (okB_labels hB)
  have HSt : Hid (∀ k, lpF B P (k + 1) = if 0 < bb B k then (lpF B P k).set (bb B k).toNat (P.getD k 0) else lpF B P k) := Lib.hid (fun k => rfl)
  have HLn := Lib.hid (lpF_len B P)
  obtain ⟨w1, hmk, hown, hb1⟩ := make_ten w
  have HO0 : Hid (w1.ownsRow w.heap.size 3 1 (.slice (some ⟨w.heap.size, 0, none⟩) 10 10) 10 ((lpF B P 0).map (Value.int .i64))) := Lib.hid hown
  have hsz : w.heap.size < w1.heap.size := (hown.lt _ rfl).2
  have HB0 := Lib.hid hb1
  clear hu HW HU hB hown hb1 hP
  generalize B.length = n at *
  go_enter Tryd.func46, Tryd.ntmps46
  go_wp2_with fail
  go_loopw [11] (fun i wr => ∃ (k : Nat), k ≤ n ∧ i = .int .i64 k ∧ w.heap.size < wr.heap.size ∧ Hid (Below w.heap.size w wr) ∧ Hid (wr.ownsRow w.heap.size 3 1 (.slice (some ⟨w.heap.size, 0, none⟩) 10 10) 10 ((lpF B P k).map (Value.int .i64)))) (fun i _ => n - (intOf i).toNat)
  case atStart => exact ⟨0, by omega, rfl, hsz, HB0, HO0⟩
  case round =>
    clear HO0 HB0
    obtain ⟨k, hk, rfl, hsr, HB, HO⟩ := hrel
    by_cases hlt : k < n
    · obtain ⟨b, off, rfl, hb, hc⟩ := HC.out k hlt
      obtain ⟨bp, op, rfl, hbp, hcpp⟩ := HCp.out k hlt
      have c0 := (HB.out.cell (p := ⟨b, off + k * 3, none⟩) hb).trans (hc k hlt).1
      have c1 := (HB.out.cell (p := ⟨b, off + k * 3 + 1, none⟩) hb).trans (hc k hlt).2.1
      have c2 := (HB.out.cell (p := ⟨b, off + k * 3 + 2, none⟩) hb).trans (hc k hlt).2.2
      have c3 := (HB.out.cell (p := ⟨bp, op + k, none⟩) hbp).trans (hcpp k hlt)
      have hy := HLb.out k hlt
      have HS := Lib.hid (HSt.out k)
      have HL := Lib.hid (HLn.out k)
      obtain ⟨l, hl⟩ := Int.eq_ofNat_of_zero_le hy.1
      rw [hl] at c1 HS hy
      rw [Int.toNat_natCast] at HS
      clear hl hc hcpp
      generalize bl B k = x at *
      generalize br B k = z at *
      generalize P.getD k 0 = p at *
      have hbel : Below wr.heap.size wr (wr.alloc (.cells #[.int .i64 x, .int .i64 (l : Int), .int .i64 z] 31)) := (Below.refl _ _).alloc (Nat.le_refl _) _
      have HB3 := Lib.hid (HB.out.trans (hbel.mono HB.out.size))
      have HO3 := Lib.hid ((ownC_of HO.out).below hbel).row
      have hf1 : (wr.alloc (.cells #[.int .i64 x, .int .i64 (l : Int), .int .i64 z] 31)).cell? ⟨wr.heap.size, 1, none⟩ = some (.int .i64 (l : Int)) := by simp [go_sem]
      have hf3 : (wr.alloc (.cells #[.int .i64 x, .int .i64 (l : Int), .int .i64 z] 31)).cell? ⟨bp, op + k, none⟩ = some (.int .i64 p) := (hbel.cell (p := ⟨bp, op + k, none⟩) (Nat.lt_of_lt_of_le hbp HB.out.size)).trans c3
      have HF1 := Lib.hid hf1
      have HF3 := Lib.hid hf3
      have hsz3 : w.heap.size < (wr.alloc (.cells #[.int .i64 x, .int .i64 (l : Int), .int .i64 z] 31)).heap.size := Nat.lt_of_lt_of_le hsr hbel.size
      clear hbel hf1 hf3 HB HO
      by_cases hl0 : 0 < l
      · have hdl : decide (0 < l) = true := decide_eq_true hl0
        have hdl2 : decide ((0 : Int) < (l : Int)) = true := decide_eq_true (by omega)
        rw [if_pos (by omega : (0 : Int) < (l : Int))] at HS
        go_wp2_with fail
        generalize wr.alloc (.cells #[.int .i64 x, .int .i64 (l : Int), .int .i64 z] 31) = W1 at *
        have f1 := HF1.out
        have f3 := HF3.out
        have hl10 : l < 10 := by omega
        have d0 : W1.cell? ⟨w.heap.size, l, none⟩ = some (.int .i64 ((lpF B P k).getD l 0)) := by rw [HO3.out.cellAt l (by omega)]; exact getD_map_int _ l (by rw [HL.out]; exact hl10)
        have z0 : W1.frozen? ⟨w.heap.size, l, none⟩ = false := HO3.out.frozenAt l
        have HO4 : Hid ((W1.setCell ⟨w.heap.size, l, none⟩ (.int .i64 p)).drew.ownsRow w.heap.size 3 1 (.slice (some ⟨w.heap.size, 0, none⟩) 10 10) 10 ((lpF B P (k + 1)).map (Value.int .i64))) := Lib.hid (by rw [HS.out]; exact (lab_set HL.out HO3.out l p).drew)
        have HB4 : Hid (Below w.heap.size w (W1.setCell ⟨w.heap.size, l, none⟩ (.int .i64 p)).drew) := Lib.hid (HB3.out.setCell (Nat.le_refl _) _).drew
        have hsz4 : w.heap.size < (W1.setCell ⟨w.heap.size, l, none⟩ (.int .i64 p)).drew.heap.size := Nat.lt_of_lt_of_le hsz3 (HO3.out.stored l (.int .i64 p)).2.size
        generalize (lpF B P k).getD l 0 = o at *
        generalize wr.heap.size = bf at *
        clear c0 c1 c2 c3 HF1 HF3 HS
        go_region
        go_wp2_with fail
        go_roundw
        case rel => exact ⟨k + 1, by omega, by go_num, hsz4, HB4, HO4⟩
        case measure => simp [intOf]; omega
      · have hdl : decide (0 < l) = false := decide_eq_false hl0
        have hdl2 : decide ((0 : Int) < (l : Int)) = false := decide_eq_false (by omega)
        rw [if_neg (by omega : ¬ (0 : Int) < (l : Int))] at HS
        have HO4 : Hid ((wr.alloc (.cells #[.int .i64 x, .int .i64 (l : Int), .int .i64 z] 31)).ownsRow w.heap.size 3 1 (.slice (some ⟨w.heap.size, 0, none⟩) 10 10) 10 ((lpF B P (k + 1)).map (Value.int .i64))) := Lib.hid (by rw [HS.out]; exact HO3.out)
        clear HS
        go_wp2_with fail
        go_roundw
        case rel => exact ⟨k + 1, by omega, by go_num, hsz3, HB3, HO4⟩
        case measure => simp [intOf]; omega
    · obtain rfl : k = n := by omega
      have HOx := Lib.hid (own_rowD HO.out (HLn.out k))
      go_wp2_with fail
      go_ret
      exact ⟨_, rfl, HOx.out, HB.out⟩

theorem slabelPages_any (v u : Value) (B : List Blk) (P : List Int) (w : World) (h : SlB w v B) (hu : SlI w u P) (hB : okB B = true) (hP : P.length = B.length) :
    Calls Tryd.prog 44 #[v, u] w (GaveI (lpF B P B.length) w) := by
  have HW := Lib.hid h
  have HU := Lib.hid hu
  obtain ⟨a, cap, rfl, h1, h2, _⟩ := h
  obtain ⟨ap, cp, rfl⟩ : ∃ a c, u = .slice a B.length c := by obtain ⟨a, c, e, _⟩ := hu; rw [hP] at e; exact ⟨a, c, e⟩
  have hcp : B.length ≤ cp ∧ cp ≤ maxLen := by obtain ⟨_, _, e, h1, h2, _⟩ := hu; injection e with _ _ e; subst e; rw [hP] at h1; exact ⟨h1, h2⟩
  unfold maxLen at h2 hcp
  have hBl := (okB_at hB).1
  have HC : Hid (∀ k, k < B.length → ∃ b off, a = some ⟨b, off, none⟩ ∧ b < w.heap.size ∧ ∀ i, i < B.length → w.cell? ⟨b, off + i * 3 + 1, none⟩ = some (.int .i64 (bb B i))) := Lib.hid (fun k hk => by
    obtain ⟨b, off, e, hb, hc⟩ := (HW.out.cells (by omega)).2
    exact ⟨b, off, e, hb, fun i hi => (hc i hi).2.1⟩)
  have HCp : Hid (∀ k, k < B.length → ∃ b off, ap = some ⟨b, off, none⟩ ∧ b < w.heap.size ∧ ∀ i, i < B.length → w.cell? ⟨b, off + i, none⟩ = some (.int .i64 (P.getD i 0))) := fun k hk => HU.out.cells (by omega)
  have HLb := Lib.hid (okB_labels hB)
  have HSt : Hid (∀ k, lpF B P (k + 1) = if 0 < bb B k then (lpF B P k).set (bb B k).toNat (P.getD k 0) else lpF B P k) := Lib.hid (fun k => rfl)
  have HLn := Lib.hid (lpF_len B P)
  have HZe : Hid ((lpF B P B.length).set 0 0 = lpF B P B.length) := Lib.hid (by
    refine getD_ext _ _ (by simp) (fun j hj => ?_)
    rw [getD_setR _ _ _ _ (by rw [lpF_len]; omega)]
    by_cases e : 0 = j
    · subst e; rw [if_pos rfl, lpF_zero B P (okB_labels hB) B.length (Nat.le_refl _)]
    · rw [if_neg e])
  obtain ⟨w1, hmk, hown, hb1⟩ := make_ten w
  have HO0 : Hid (w1.ownsRow w.heap.size 3 1 (.slice (some ⟨w.heap.size, 0, none⟩) 10 10) 10 (((lpF B P 0).set 0 0).map (Value.int .i64))) := Lib.hid hown
  have hsz : w.heap.size < w1.heap.size := (hown.lt _ rfl).2
  have HB0 := Lib.hid hb1
  clear hu HW HU hB hown hb1 hP
  generalize B.length = n at *
  go_enter Tryd.func44, Tryd.ntmps44
  go_wp2_with fail
  go_loopw [6] (fun i wr => ∃ (k : Nat) (x : Int), k ≤ n ∧ i = .int .i64 k ∧ w.heap.size < wr.heap.size ∧ Hid (Below w.heap.size w wr) ∧ Hid (wr.ownsRow w.heap.size 3 1 (.slice (some ⟨w.heap.size, 0, none⟩) 10 10) 10 (((lpF B P k).set 0 x).map (Value.int .i64)))) (fun i _ => n - (intOf i).toNat)
  case atStart => exact ⟨0, 0, by omega, rfl, hsz, HB0, HO0⟩
  case round =>
    clear HO0 HB0
    obtain ⟨k, x, hk, rfl, hsr, HB, HO⟩ := hrel
    have HL : Hid (((lpF B P k).set 0 x).length = 10) := Lib.hid (by rw [List.length_set]; exact HLn.out k)
    by_cases hlt : k < n
    · obtain ⟨b, off, rfl, hb, hc⟩ := HC.out k hlt
      obtain ⟨bp, op, rfl, hbp, hcpp⟩ := HCp.out k hlt
      have c1 := (HB.out.cell (p := ⟨b, off + k * 3 + 1, none⟩) hb).trans (hc k hlt)
      have c3 := (HB.out.cell (p := ⟨bp, op + k, none⟩) hbp).trans (hcpp k hlt)
      have hy := HLb.out k hlt
      have HS := Lib.hid (HSt.out k)
      obtain ⟨l, hl⟩ := Int.eq_ofNat_of_zero_le hy.1
      rw [hl] at c1 HS hy
      rw [Int.toNat_natCast] at HS
      clear hl hc hcpp
      generalize P.getD k 0 = p at *
      have hl10 : l < 10 := by omega
      have d0 : wr.cell? ⟨w.heap.size, l, none⟩ = some (.int .i64 (((lpF B P k).set 0 x).getD l 0)) := by rw [HO.out.cellAt l (by omega)]; exact getD_map_int _ l (by rw [HL.out]; exact hl10)
      have z0 : wr.frozen? ⟨w.heap.size, l, none⟩ = false := HO.out.frozenAt l
      have HO4 : Hid (∃ x', (wr.setCell ⟨w.heap.size, l, none⟩ (.int .i64 p)).drew.ownsRow w.heap.size 3 1 (.slice (some ⟨w.heap.size, 0, none⟩) 10 10) 10 (((lpF B P (k + 1)).set 0 x').map (Value.int .i64))) := Lib.hid (by
        have h0 := (lab_set HL.out HO.out l p).drew
        by_cases hl0 : 0 < l
        · refine ⟨x, ?_⟩
          rw [HS.out, if_pos (by omega : (0 : Int) < (l : Int)), List.set_comm _ _ (by omega)]
          exact h0
        · obtain rfl : l = 0 := by omega
          refine ⟨p, ?_⟩
          rw [HS.out, if_neg (by omega : ¬ (0 : Int) < ((0 : Nat) : Int))]
          rw [List.set_set] at h0
          exact h0)
      have HB4 : Hid (Below w.heap.size w (wr.setCell ⟨w.heap.size, l, none⟩ (.int .i64 p)).drew) := Lib.hid (HB.out.setCell (Nat.le_refl _) _).drew
      have hsz4 : w.heap.size < (wr.setCell ⟨w.heap.size, l, none⟩ (.int .i64 p)).drew.heap.size := Nat.lt_of_lt_of_le hsr (HO.out.stored l (.int .i64 p)).2.size
      obtain ⟨x', ho4⟩ := HO4.out
      have HO5 := Lib.hid ho4
      generalize ((lpF B P k).set 0 x).getD l 0 = o at *
      clear HS HO4 ho4 HO HB
      go_wp2_with fail
      go_region
      go_wp2_with fail
      go_roundw
      case rel => exact ⟨k + 1, x', by omega, by go_num, hsz4, HB4, HO5⟩
      case measure => simp [intOf]; omega
    · obtain rfl : k = n := by omega
      have d0 : wr.cell? ⟨w.heap.size, 0, none⟩ = some (.int .i64 (((lpF B P k).set 0 x).getD 0 0)) := by rw [HO.out.cellAt 0 (by omega)]; exact getD_map_int _ 0 (by rw [HL.out]; omega)
      have z0 : wr.frozen? ⟨w.heap.size, 0, none⟩ = false := HO.out.frozenAt 0
      have HO4 : Hid ((wr.setCell ⟨w.heap.size, 0, none⟩ (.int .i64 0)).ownsRow w.heap.size 3 1 (.slice (some ⟨w.heap.size, 0, none⟩) 10 10) 10 ((lpF B P k).map (Value.int .i64))) := Lib.hid (by
        have h0 := lab_set HL.out HO.out 0 0
        rw [List.set_set, HZe.out] at h0
        exact h0)
      have HB4 : Hid (Below w.heap.size w (wr.setCell ⟨w.heap.size, 0, none⟩ (.int .i64 0))) := Lib.hid (HB.out.setCell (Nat.le_refl _) _)
      have HOx := Lib.hid (own_rowD HO4.out (HLn.out k))
      generalize ((lpF B P k).set 0 x).getD 0 0 = o at *
      clear HO HB HO4
      go_wp2_with fail
      go_ret
      exact ⟨_, rfl, HOx.out, HB4.out⟩
end Go.Proofs.YtgppljadkpoklaaDoor
