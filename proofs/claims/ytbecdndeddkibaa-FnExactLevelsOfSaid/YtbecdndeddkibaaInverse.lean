/- Both InverseOrder give invS. -/
import Derived.Test.YtbecdndeddkibaaInts2
import Derived.Test.YtbecdndeddkibaaRange
namespace Go.Proofs.Ytbecdndeddkibaa
open Go.RowKit
set_option maxHeartbeats 400000

theorem boolInfo : (Try.prog.info? 4).map (fun i => (i.zero, i.size, i.bytes)) = some (some (.bool false), 1, 1) := by kernel_rfl

/-- The places of the indices, read one by one; nothing where an index is out of range or was seen. -/
def invGo (n : Nat) : List Int → Nat → List Int → List Bool → List Int
  | [], _, out, _ => out
  | x :: r, p, out, seen => if 0 ≤ x ∧ x ≤ (n : Int) - 1 ∧ seen.getD x.toNat false = false then invGo n r (p + 1) (out.set x.toNat (p : Int)) (seen.set x.toNat true) else []
def invS (L : List Int) : List Int := if 60 < L.length then [] else invGo L.length L 0 (List.replicate L.length 0) (List.replicate L.length false)

structure InvRel (w wr : World) (g0 g1 n : Nat) (M : List Int) (S : List Bool) : Prop where
  lM : M.length = n
  lS : S.length = n
  rowM : wr.ownsRow w.heap.size 3 1 (.slice (some ⟨g0, 0, none⟩) n n) n (M.map (Value.int .i64))
  rowS : wr.ownsRow w.heap.size 4 1 (.slice (some ⟨g1, 0, none⟩) n n) n (S.map Value.bool)
  below : Below w.heap.size w wr
  ne : g0 ≠ g1

theorem InvRel.step {w wr : World} {g0 g1 n : Nat} {M : List Int} {S : List Bool} (h : InvRel w wr g0 g1 n M S) (x : Nat) (p : Int) :
    InvRel w ((wr.setCell ⟨g1, x, none⟩ (.bool true)).setCell ⟨g0, x, none⟩ (.int .i64 p)) g0 g1 n (M.set x p) (S.set x true) := by
  have s1 := h.rowS.stored x (.bool true)
  have m1 := h.rowM.kept s1.2 (.inr (by simpa [Value.ownBlock] using h.ne))
  have m2 := m1.stored x (.int .i64 p)
  have s2 := s1.1.kept m2.2 (.inr (by simpa [Value.ownBlock] using fun e => h.ne e.symm))
  refine ⟨by simpa using h.lM, by simpa using h.lS, by rw [List.map_set]; exact m2.1, by rw [List.map_set]; exact s2, ?_, h.ne⟩
  exact (h.below.setCell (h.rowS.lt g1 rfl).1 _).setCell (h.rowM.lt g0 rfl).1 _
theorem InvRel.cells {w wr : World} {g0 g1 n : Nat} {M : List Int} {S : List Bool} (h : InvRel w wr g0 g1 n M S) (x : Nat) (hx : x < n) :
    wr.cell? ⟨g0, x, none⟩ = some (.int .i64 (M.getD x 0)) ∧ wr.cell? ⟨g1, x, none⟩ = some (.bool (S.getD x false)) ∧ wr.frozen? ⟨g0, x, none⟩ = false ∧ wr.frozen? ⟨g1, x, none⟩ = false := by
  have hM := h.lM
  have hS := h.lS
  refine ⟨?_, ?_, h.rowM.frozenAt x, h.rowS.frozenAt x⟩
  · rw [h.rowM.cellAt x (by omega)]; exact getD_map_int M x (by omega)
  · rw [h.rowS.cellAt x (by omega)]; simp [List.getD_eq_getElem?_getD, hS, hx]

/-- The two rows that both functions make. -/
theorem inv_makes (w : World) (n : Nat) (hn : n ≤ 60) : ∃ w1 w2, (Instr.makeSlice 22 (.int .i64 (n : Int)) (.int .i64 (n : Int))).run Try.prog w = .ok (.slice (some ⟨w.heap.size, 0, none⟩) n n) w1 ∧
    (Instr.makeSlice 38 (.int .i64 (n : Int)) (.int .i64 (n : Int))).run Try.prog w1 = .ok (.slice (some ⟨w1.heap.size, 0, none⟩) n n) w2 ∧
    InvRel w w2 w.heap.size w1.heap.size n (List.replicate n 0) (List.replicate n false) := by
  obtain ⟨i0, hi, hz0, hz1, hz2⟩ := info_parts intInfo
  obtain ⟨i1, hj, hy0, hy1, hy2⟩ := info_parts boolInfo
  obtain ⟨w1, hmk, hown, hgrow⟩ := run_make_full (P := Try.prog) w w.heap.size 22 3 i0 (.int .i64 0) 1 Try.underlying22 hi hz0 hz1 .i64 .i64 n (by rw [hz2]; omega) (by unfold maxLen; omega) (Nat.le_refl _)
  have hlt : w.heap.size < w1.heap.size := (hown.lt _ rfl).2
  obtain ⟨w2, hmk2, hown2, hgrow2⟩ := run_make_full (P := Try.prog) w1 w.heap.size 38 4 i1 (.bool false) 1 Try.underlying38 hj hy0 hy1 .i64 .i64 n (by rw [hy2]; omega) (by unfold maxLen; omega) (by omega)
  have e0 : (madeCells (Value.int .i64 0).cells (n * 1)).toList = (List.replicate n (0 : Int)).map (Value.int .i64) := by
    show (madeCells #[Value.int .i64 0] _).toList = _
    rw [toList_madeCells_one]; simp
  have e1 : (madeCells (Value.bool false).cells (n * 1)).toList = (List.replicate n false).map Value.bool := by
    show (madeCells #[Value.bool false] _).toList = _
    rw [toList_madeCells_one]; simp
  rw [e0] at hown
  rw [e1] at hown2
  refine ⟨w1, w2, hmk, hmk2, by simp, by simp, hown.kept hgrow2 (.inr (by simp [Value.ownBlock])), hown2, ?_, by omega⟩
  exact ((Below.refl _ _).grown hgrow (Nat.le_refl _) (fun k hk => by simp at hk)).grown hgrow2 (by omega) (fun k hk => by simp at hk)

theorem invGo_cons (n k : Nat) (L M : List Int) (S : List Bool) (hk : k < L.length) : invGo n (L.drop k) k M S = if 0 ≤ L.getD k 0 ∧ L.getD k 0 ≤ (n : Int) - 1 ∧ S.getD (L.getD k 0).toNat false = false then invGo n (L.drop (k + 1)) (k + 1) (M.set (L.getD k 0).toNat (k : Int)) (S.set (L.getD k 0).toNat true) else [] := by
  rw [List.drop_eq_getElem_cons hk, invGo, show L.getD k 0 = L[k] by simp [List.getD_eq_getElem?_getD, hk]]

theorem own_nil (lo hi : Nat) (w : World) (h : hi ≤ w.heap.size) : OwnI lo hi w (.slice none 0 0) [] := ⟨World.ownsRow_nil .., fun k hk => by simp [Value.ownBlock] at hk, h⟩

theorem inverse_any (v : Value) (L : List Int) (w : World) (h : SlI w v L) :
    Calls Try.prog 18 #[v] w (GaveI (invS L) w) := by
  have HW := Lib.hid h
  obtain ⟨a, cap, rfl, h1, h2, _⟩ := h
  unfold maxLen at h2
  by_cases hn : 60 < L.length
  · have e : invS L = [] := if_pos hn
    rw [e]
    go_enter Try.func18, Try.ntmps18
    go_wp2_with fail
    go_ret
    exact ⟨_, rfl, own_nil _ _ _ (Nat.le_refl _), Below.refl _ _⟩
  · have e : invS L = invGo L.length L 0 (List.replicate L.length 0) (List.replicate L.length false) := if_neg hn
    rw [e]
    have HC := Lib.hid (invGo_cons L.length)
    clear e
    obtain ⟨w1, w2, hmk, hmk2, hI⟩ := inv_makes w L.length (by omega)
    have HL : Hid (∀ k, k < L.length → ∃ b off, a = some ⟨b, off, none⟩ ∧ b < w.heap.size ∧ w.cell? ⟨b, off + k, none⟩ = some (.int .i64 (L.getD k 0))) := fun k hk => by
      obtain ⟨b, off, e, hb, hc⟩ := HW.out.cells (by omega)
      exact ⟨b, off, e, hb, hc k hk⟩
    generalize hn0 : L.length = n at *
    have HN := Lib.hid hn0
    clear hn0
    go_enter Try.func18, Try.ntmps18
    go_wp2_with fail
    go_loopw [18] (fun i wr => ∃ (k : Nat) (M : List Int) (S : List Bool), k ≤ n ∧ i = .int .i64 k ∧ Hid (InvRel w wr w.heap.size w1.heap.size n M S) ∧ Hid (invGo n (L.drop k) k M S = invGo n L 0 (List.replicate n 0) (List.replicate n false))) (fun i _ => n - (intOf i).toNat)
    case atStart => exact ⟨0, _, _, by omega, rfl, hI, rfl⟩
    case round =>
      obtain ⟨k, M, S, hk, rfl, HI, HE⟩ := hrel
      clear hmk hmk2 hI
      by_cases hlt : k < n
      · obtain ⟨b, off, rfl, hb, hc⟩ := HL.out k hlt
        have c0 := (HI.out.below.cell (p := ⟨b, off + k, none⟩) hb).trans hc
        have HC1 : Hid (invGo n (L.drop k) k M S = _) := HC.out k L M S (by have := HN.out; omega)
        clear hc
        generalize L.getD k 0 = x at *
        by_cases hx : 0 ≤ x ∧ x ≤ (n : Int) - 1
        · have hd : decide (0 ≤ x ∧ x ≤ (n : Int) - 1) = true := by simpa using hx
          obtain ⟨m, rfl⟩ := Int.eq_ofNat_of_zero_le hx.1
          have hm : m < n := by omega
          rw [Int.toNat_natCast] at HC1
          obtain ⟨a1, a2, a3, a4⟩ := HI.out.cells m hm
          have hne := HI.out.ne
          cases hs : S.getD m false with
          | false =>
            have HE1 : Hid (invGo n (L.drop (k + 1)) (k + 1) (M.set m (k : Int)) (S.set m true) = invGo n L 0 (List.replicate n 0) (List.replicate n false)) := Lib.hid (by
              rw [← HE.out, HC1.out, if_pos ⟨hx.1, hx.2, hs⟩])
            have HI1 : Hid _ := HI.out.step m (k : Int)
            rw [hs] at a2
            clear hs HC1 HE HC hx
            generalize M.getD m 0 = y at *
            go_wp2_with (go_at_call 24; refine (within_any _ _ _ _).mono ?_; rintro e w' ⟨rfl, rfl⟩)
            go_roundw
            case rel => exact ⟨k + 1, _, _, by omega, by go_num, HI1, HE1⟩
            case measure => simp [intOf]; omega
          | true =>
            have HE1 : Hid ([] = invGo n L 0 (List.replicate n 0) (List.replicate n false)) := Lib.hid (by
              rw [← HE.out, HC1.out, if_neg (by rw [hs]; simp)])
            rw [hs] at a2
            clear hs HC1 HE HC hx
            generalize M.getD m 0 = y at *
            go_wp2_with (go_at_call 24; refine (within_any _ _ _ _).mono ?_; rintro e w' ⟨rfl, rfl⟩)
            go_ret
            rw [← HE1.out]
            exact ⟨_, rfl, own_nil _ _ _ (Nat.le_refl _) |>.mono HI.out.below.size (Nat.le_refl _) (Nat.le_refl _), HI.out.below⟩
        · have hd : decide (0 ≤ x ∧ x ≤ (n : Int) - 1) = false := by simpa using hx
          have HE1 : Hid ([] = invGo n L 0 (List.replicate n 0) (List.replicate n false)) := Lib.hid (by
              rw [← HE.out, HC1.out, if_neg (fun h => hx ⟨h.1, h.2.1⟩)])
          clear HC1 HE HC hx
          go_wp2_with (go_at_call 24; refine (within_any _ _ _ _).mono ?_; rintro e w' ⟨rfl, rfl⟩)
          go_ret
          rw [← HE1.out]
          exact ⟨_, rfl, own_nil _ _ _ (Nat.le_refl _) |>.mono HI.out.below.size (Nat.le_refl _) (Nat.le_refl _), HI.out.below⟩
      · obtain rfl : k = n := by omega
        go_wp2_with fail
        go_ret
        have he := HE.out
        rw [List.drop_of_length_le (by have := HN.out; omega)] at he
        rw [← he]
        show GaveI M _ _ _
        refine ⟨_, rfl, ⟨by rw [HI.out.lM]; exact HI.out.rowM, fun t ht => ?_, Nat.le_refl _⟩, HI.out.below⟩
        have := HI.out.rowM.lt _ ht
        exact this.2

theorem sinverse_any (v : Value) (L : List Int) (w : World) (h : SlI w v L) :
    Calls Try.prog 19 #[v] w (GaveI (invS L) w) := by
  have HW := Lib.hid h
  obtain ⟨a, cap, rfl, h1, h2, _⟩ := h
  unfold maxLen at h2
  by_cases hn : 60 < L.length
  · have e : invS L = [] := if_pos hn
    rw [e]
    go_enter Try.func19, Try.ntmps19
    go_wp2_with fail
    go_ret
    exact ⟨_, rfl, own_nil _ _ _ (Nat.le_refl _), Below.refl _ _⟩
  · have e : invS L = invGo L.length L 0 (List.replicate L.length 0) (List.replicate L.length false) := if_neg hn
    rw [e]
    have HC := Lib.hid (invGo_cons L.length)
    clear e
    obtain ⟨w1, w2, hmk, hmk2, hI⟩ := inv_makes w L.length (by omega)
    have HL : Hid (∀ k, k < L.length → ∃ b off, a = some ⟨b, off, none⟩ ∧ b < w.heap.size ∧ w.cell? ⟨b, off + k, none⟩ = some (.int .i64 (L.getD k 0))) := fun k hk => by
      obtain ⟨b, off, e, hb, hc⟩ := HW.out.cells (by omega)
      exact ⟨b, off, e, hb, hc k hk⟩
    generalize hn0 : L.length = n at *
    have HN := Lib.hid hn0
    clear hn0
    go_enter Try.func19, Try.ntmps19
    go_wp2_with fail
    go_loopw [5] (fun i wr => ∃ (k : Nat) (M : List Int) (S : List Bool), k ≤ n ∧ i = .int .i64 k ∧ Hid (InvRel w wr w.heap.size w1.heap.size n M S) ∧ Hid (invGo n (L.drop k) k M S = invGo n L 0 (List.replicate n 0) (List.replicate n false))) (fun i _ => n - (intOf i).toNat)
    case atStart => exact ⟨0, _, _, by omega, rfl, hI, rfl⟩
    case round =>
      obtain ⟨k, M, S, hk, rfl, HI, HE⟩ := hrel
      clear hmk hmk2 hI
      by_cases hlt : k < n
      · obtain ⟨b, off, rfl, hb, hc⟩ := HL.out k hlt
        have hb1 : b ≠ w1.heap.size := by have := (HI.out.rowS.lt w1.heap.size rfl).1; omega
        have c0 := (HI.out.below.cell (p := ⟨b, off + k, none⟩) hb).trans hc
        have HC1 : Hid (invGo n (L.drop k) k M S = _) := HC.out k L M S (by have := HN.out; omega)
        clear hc
        generalize L.getD k 0 = x at *
        by_cases hx : 0 ≤ x ∧ x ≤ (n : Int) - 1
        · have hd : decide (0 ≤ x ∧ x ≤ (n : Int) - 1) = true := by simpa using hx
          obtain ⟨m, rfl⟩ := Int.eq_ofNat_of_zero_le hx.1
          have hm : m < n := by omega
          rw [Int.toNat_natCast] at HC1
          obtain ⟨a1, a2, a3, a4⟩ := HI.out.cells m hm
          have hne := HI.out.ne
          cases hs : S.getD m false with
          | false =>
            have HE1 : Hid (invGo n (L.drop (k + 1)) (k + 1) (M.set m (k : Int)) (S.set m true) = invGo n L 0 (List.replicate n 0) (List.replicate n false)) := Lib.hid (by
              rw [← HE.out, HC1.out, if_pos ⟨hx.1, hx.2, hs⟩])
            have HI1 : Hid _ := HI.out.step m (k : Int)
            rw [hs] at a2
            clear hs HC1 HE HC hx
            generalize M.getD m 0 = y at *
            go_wp2_with (go_at_call 22; refine (inRange_any _ _ _ _).mono ?_; rintro e w' ⟨rfl, rfl⟩)
            go_roundw
            case rel => exact ⟨k + 1, _, _, by omega, by go_num, HI1, HE1⟩
            case measure => simp [intOf]; omega
          | true =>
            have HE1 : Hid ([] = invGo n L 0 (List.replicate n 0) (List.replicate n false)) := Lib.hid (by
              rw [← HE.out, HC1.out, if_neg (by rw [hs]; simp)])
            rw [hs] at a2
            clear hs HC1 HE HC hx
            generalize M.getD m 0 = y at *
            go_wp2_with (go_at_call 22; refine (inRange_any _ _ _ _).mono ?_; rintro e w' ⟨rfl, rfl⟩)
            go_ret
            rw [← HE1.out]
            exact ⟨_, rfl, own_nil _ _ _ (Nat.le_refl _) |>.mono HI.out.below.size (Nat.le_refl _) (Nat.le_refl _), HI.out.below⟩
        · have hd : decide (0 ≤ x ∧ x ≤ (n : Int) - 1) = false := by simpa using hx
          have HE1 : Hid ([] = invGo n L 0 (List.replicate n 0) (List.replicate n false)) := Lib.hid (by
              rw [← HE.out, HC1.out, if_neg (fun h => hx ⟨h.1, h.2.1⟩)])
          clear HC1 HE HC hx
          go_wp2_with (go_at_call 22; refine (inRange_any _ _ _ _).mono ?_; rintro e w' ⟨rfl, rfl⟩)
          go_ret
          rw [← HE1.out]
          exact ⟨_, rfl, own_nil _ _ _ (Nat.le_refl _) |>.mono HI.out.below.size (Nat.le_refl _) (Nat.le_refl _), HI.out.below⟩
      · obtain rfl : k = n := by omega
        go_wp2_with fail
        go_ret
        have he := HE.out
        rw [List.drop_of_length_le (by have := HN.out; omega)] at he
        rw [← he]
        show GaveI M _ _ _
        refine ⟨_, rfl, ⟨by rw [HI.out.lM]; exact HI.out.rowM, fun t ht => ?_, Nat.le_refl _⟩, HI.out.below⟩
        have := HI.out.rowM.lt _ ht
        exact this.2
end Go.Proofs.Ytbecdndeddkibaa
