/- Boxes side by side, in both. -/
import Derived.Test.YtdloeiaaokhniaaFmTo
import Derived.Test.YtdloeiaaokhniaaBlkPlain
import Derived.StillTailTactics
namespace Go.Proofs.Ytdloeiaaokhniaa
open Go.RowKit
set_option maxHeartbeats 1000000
set_option maxRecDepth 100000
set_option linter.unusedVariables false

/-- A block of three cells, its own. -/
def Three (T : TypeId) (w : World) (b : Nat) (v0 v1 v2 : Value) : Prop := w.ownsRow b T 3 (.slice (some ⟨b, 0, none⟩) 1 1) 1 [v0, v1, v2]
theorem Three.lt {T : TypeId} {w : World} {b : Nat} {v0 v1 v2 : Value} (h : Three T w b v0 v1 v2) : b < w.heap.size := (World.ownsRow.lt h b rfl).2
theorem Three.cells {T : TypeId} {w : World} {b : Nat} {v0 v1 v2 : Value} (h : Three T w b v0 v1 v2) : w.cell? ⟨b, 0, none⟩ = some v0 ∧ w.cell? ⟨b, 1, none⟩ = some v1 ∧ w.cell? ⟨b, 2, none⟩ = some v2 :=
  ⟨World.ownsRow.cellAt h 0 (by omega), World.ownsRow.cellAt h 1 (by omega), World.ownsRow.cellAt h 2 (by omega)⟩
theorem Three.free {T : TypeId} {w : World} {b : Nat} {v0 v1 v2 : Value} (h : Three T w b v0 v1 v2) : w.frozen? ⟨b, 0, none⟩ = false ∧ w.frozen? ⟨b, 1, none⟩ = false ∧ w.frozen? ⟨b, 2, none⟩ = false :=
  ⟨World.ownsRow.frozenAt h 0, World.ownsRow.frozenAt h 1, World.ownsRow.frozenAt h 2⟩
theorem Three.same {T : TypeId} {w w' : World} {b : Nat} {v0 v1 v2 : Value} (h : Three T w b v0 v1 v2) (hs : w'.heap[b]? = w.heap[b]?) : Three T w' b v0 v1 v2 := by
  refine ⟨h.1, ?_⟩
  rcases h.2 with h0 | ⟨g, cap, cur, e, h1, h2, h3⟩
  · exact .inl h0
  · injection e with e1 _ e3
    injection e1 with e1
    injection e1 with e1
    subst e1
    exact .inr ⟨b, cap, cur, by rw [e3], h1, by rw [hs]; exact h2, h3⟩
theorem Three.below {T : TypeId} {w w' : World} {b : Nat} {v0 v1 v2 : Value} (h : Three T w b v0 v1 v2) (hb : Below w.heap.size w w') : Three T w' b v0 v1 v2 := h.same (hb.block b h.lt)
theorem Three.new (T : TypeId) (w : World) (v0 v1 v2 : Value) : Three T (w.alloc (.cells #[v0, v1, v2] T)) w.heap.size v0 v1 v2 := World.ownsRow_lit w #[v0, v1, v2] 1 (Nat.le_refl _) (by decide) rfl
theorem Three.alloc {T : TypeId} {w : World} {b : Nat} {v0 v1 v2 : Value} (h : Three T w b v0 v1 v2) (o : Obj) : Three T (w.alloc o) b v0 v1 v2 := h.below ((Below.refl _ _).alloc (Nat.le_refl _) _)
theorem Three.set0 {T : TypeId} {w : World} {b : Nat} {v0 v1 v2 : Value} (h : Three T w b v0 v1 v2) (u : Value) : Three T (w.setCell ⟨b, 0, none⟩ u) b u v1 v2 := (World.ownsRow.stored h 0 u).1
theorem Three.set1 {T : TypeId} {w : World} {b : Nat} {v0 v1 v2 : Value} (h : Three T w b v0 v1 v2) (u : Value) : Three T (w.setCell ⟨b, 1, none⟩ u) b v0 u v2 := (World.ownsRow.stored h 1 u).1
theorem Three.set2 {T : TypeId} {w : World} {b : Nat} {v0 v1 v2 : Value} (h : Three T w b v0 v1 v2) (u : Value) : Three T (w.setCell ⟨b, 2, none⟩ u) b v0 v1 u := (World.ownsRow.stored h 2 u).1
theorem Three.aside {T : TypeId} {w : World} {b c o : Nat} {v0 v1 v2 : Value} (h : Three T w b v0 v1 v2) (hc : c ≠ b) (u : Value) : Three T (w.setCell ⟨c, o, none⟩ u) b v0 v1 v2 := h.same (Below.heap_setCell w ⟨c, o, none⟩ u b (fun e => hc e.symm))

theorem take_snocB (L : List Blk) (j : Nat) (h : j < L.length) : L.take (j + 1) = L.take j ++ [(bl L j, bb L j, br L j)] := by
  rw [List.take_succ_eq_append_getElem h]
  unfold bl bb br
  rw [List.getD_eq_getElem?_getD, List.getElem?_eq_getElem h]; rfl
theorem bxW_snoc (L : List Blk) (j : Nat) (h : j < L.length) : bxW (L.take (j + 1)) = bxW (L.take j) + bl L j := by rw [take_snocB L j h, bxW_app]; simp [bxW]
theorem bxH_snoc (L : List Blk) (j : Nat) (h : j < L.length) (h0 : 0 ≤ bb L j) : bxH (L.take (j + 1)) = max (bxH (L.take j)) (bb L j) := by rw [take_snocB L j h, bxH_app]; simp only [bxH]; omega
theorem bxD_snoc (L : List Blk) (j : Nat) (h : j < L.length) (h0 : 0 ≤ br L j) : bxD (L.take (j + 1)) = max (bxD (L.take j)) (br L j) := by rw [take_snocB L j h, bxD_app]; simp only [bxD]; omega
theorem max_if (a b : Int) : max a b = if a < b then b else a := by rw [Int.max_def]; split <;> split <;> omega
/-- Boxes of bounded lengths. -/
def BxOk (L : List Blk) : Prop := L.length ≤ 6 ∧ ∀ p ∈ L, boxIn 4665600 p
theorem BxOk.at {L : List Blk} (h : BxOk L) (j : Nat) (hj : j < L.length) : (0 ≤ bl L j ∧ bl L j ≤ 4665600) ∧ (0 ≤ bb L j ∧ bb L j ≤ 4665600) ∧ (0 ≤ br L j ∧ br L j ≤ 4665600) := by
  have := h.2 L[j] (List.getElem_mem _)
  unfold bl bb br
  rw [List.getD_eq_getElem?_getD, List.getElem?_eq_getElem hj]
  exact this
theorem BxOk.sums {L : List Blk} (h : BxOk L) (j : Nat) (hj : j ≤ L.length) : (0 ≤ bxW (L.take j) ∧ bxW (L.take j) ≤ 27993600) ∧ (0 ≤ bxH (L.take j) ∧ bxH (L.take j) ≤ 4665600) ∧ (0 ≤ bxD (L.take j) ∧ bxD (L.take j) ≤ 4665600) := by
  have hl := h.1
  have := bx_in (B := 4665600) (by omega) (L.take j) (fun p hp => h.2 p (List.mem_of_mem_take hp))
  rw [List.length_take, Nat.min_eq_left hj] at this
  omega
def bxV (x y z : Int) : Value := .agg #[.int .i64 x, .int .i64 y, .int .i64 z]

theorem besides_any (v : Value) (L : List Blk) (w : World) (h : SlB w v L) (hL : BxOk L) :
    Calls Try.prog 43 #[v] w fun e w' => e = .returned (bxV (bxW L) (bxH L) (bxD L)) ∧ Below w.heap.size w w' := by
  have HW := Lib.hid h
  obtain ⟨a, cap, rfl, h1, h2, _⟩ := h
  unfold maxLen at h2
  have HC : Hid (∀ k, k < L.length → ∃ b off, a = some ⟨b, off, none⟩ ∧ b < w.heap.size ∧ ∀ i, i < L.length → w.cell? ⟨b, off + i * 3, none⟩ = some (.int .i64 (bl L i)) ∧ w.cell? ⟨b, off + i * 3 + 1, none⟩ = some (.int .i64 (bb L i)) ∧ w.cell? ⟨b, off + i * 3 + 2, none⟩ = some (.int .i64 (br L i))) := fun k hk => (HW.out.cells (by omega)).2
  have HAt := Lib.hid hL.at
  have HSu := Lib.hid hL.sums
  have hl6 := hL.1
  have HSn := Lib.hid (fun j hj => And.intro (bxW_snoc L j hj) (And.intro (bxH_snoc L j hj (hL.at j hj).2.1.1) (bxD_snoc L j hj (hL.at j hj).2.2.1)))
  have HEn : Hid (L.take L.length = L) := Lib.hid (List.take_length ..)
  have HA : Hid (Below w.heap.size w ((w.alloc (.cells #[.int .i64 0, .int .i64 0, .int .i64 0] 29)).alloc (.cells #[.int .i64 0, .int .i64 0, .int .i64 0] 29))) := Lib.hid (((Below.refl _ _).alloc (Nat.le_refl _) _).alloc (by simp) _)
  have T2 := Lib.hid ((Three.new 29 w (.int .i64 0) (.int .i64 0) (.int .i64 0)).alloc (.cells #[.int .i64 0, .int .i64 0, .int .i64 0] 29))
  have T3 := Lib.hid (Three.new 29 (w.alloc (.cells #[.int .i64 0, .int .i64 0, .int .i64 0] 29)) (.int .i64 0) (.int .i64 0) (.int .i64 0))
  simp only [alloc_sz] at T3
  clear HW hL
  generalize hn : L.length = n at *
  have HN := Lib.hid hn
  clear hn
  go_enter Try.func43, Try.ntmps43
  go_wp2_with fail
  generalize (w.alloc (.cells #[.int .i64 0, .int .i64 0, .int .i64 0] 29)).alloc (.cells #[.int .i64 0, .int .i64 0, .int .i64 0] 29) = W at *
  go_loopw [5, 8] (fun _ i wr => ∃ (j : Nat), j ≤ n ∧ i = .int .i64 j ∧ Hid (Below w.heap.size w wr) ∧ Hid (Three 29 wr w.heap.size (.int .i64 0) (.int .i64 0) (.int .i64 0)) ∧ Hid (Three 29 wr (w.heap.size + 1) (.int .i64 (bxW (L.take j))) (.int .i64 (bxH (L.take j))) (.int .i64 (bxD (L.take j))))) (fun _ i _ => n - (intOf i).toNat)
  case atStart => exact ⟨0, by omega, rfl, HA, T2, T3⟩
  case round =>
    clear T2 T3 HA
    obtain ⟨j, hj, rfl, HB, HT2, HT3⟩ := hrel
    obtain ⟨x0, x1, x2⟩ := HT3.out.cells
    obtain ⟨y0, y1, y2⟩ := HT3.out.free
    by_cases hlt : j < n
    · obtain ⟨b, off, rfl, hb, hc⟩ := HC.out j hlt
      obtain ⟨c0, c1, c2⟩ := hc j hlt
      rw [← (bcell HB.out).1 _ _ hb] at c0 c1 c2
      obtain ⟨n0, n1, n2⟩ := HSn.out j hlt
      obtain ⟨m0, m1, m2⟩ := HAt.out j hlt
      obtain ⟨s0, s1, s2⟩ := HSu.out j hj
      clear hc
      have HT3' := HT3
      generalize bxW (L.take j) = p0 at *
      generalize bxH (L.take j) = p1 at *
      generalize bxD (L.take j) = p2 at *
      generalize bl L j = q0 at *
      generalize bb L j = q1 at *
      generalize br L j = q2 at *
      have i0 : IntKind.i64.wrap (p0 + q0) = p0 + q0 := IntWalk.i64_in _ (by omega)
      have hlx : w.heap.size + 1 < wr.heap.size := HT3.out.lt
      go_wp2_with fail
      go_roundw
      case rel =>
        refine ⟨j + 1, by omega, by first | rfl | go_num, Lib.hid ((((HB.out.setCell (by simp only; omega) _).setCell (by simp only; omega) _).setCell (by simp only; omega) _).alloc (Nat.le_trans HB.out.size (by simp [World.setCell])) _), Lib.hid ((((HT2.out.aside (by omega) _).aside (by omega) _).aside (by omega) _).alloc _), Lib.hid ?_⟩
        rw [n0, n1, n2, max_if, max_if]
        exact (((HT3.out.set0 _).set1 _).set2 _).alloc _
      case measure => simp [intOf]; omega
    · obtain rfl : j = n := by omega
      obtain ⟨z0, z1, z2⟩ := HT2.out.cells
      obtain ⟨t0, t1, t2⟩ := HT2.out.free
      have hEn := HEn.out
      rw [hEn] at HT3 x0 x1 x2
      have U := ((HT2.out.set0 (.int .i64 (bxW L))).set1 (.int .i64 (bxH L))).set2 (.int .i64 (bxD L))
      have HU := Lib.hid U.cells
      have HB2 := Lib.hid (((HB.out.setCell (p := ⟨w.heap.size, 0, none⟩) (Nat.le_refl _) (.int .i64 (bxW L))).setCell (p := ⟨w.heap.size, 1, none⟩) (Nat.le_refl _) (.int .i64 (bxH L))).setCell (p := ⟨w.heap.size, 2, none⟩) (Nat.le_refl _) (.int .i64 (bxD L)))
      clear U HB HT2 HT3 HSu HSn HAt
      go_wp2_with fail
      obtain ⟨g0, g1, g2⟩ := HU.out
      exact bodyPost_ret (v := bxV (bxW L) (bxH L) (bxD L)) (by simp [results, Try.results43, go_sem, bxV, g0, g1, g2]) rfl ⟨rfl, HB2.out⟩

theorem row_any (v : Value) (L : List Blk) (w : World) (h : SlB w v L) (hL : BxOk L) :
    Calls Try.prog 54 #[v] w fun e w' => e = .returned (bxV (bxW L) (bxH L) (bxD L)) ∧ Below w.heap.size w w' := by
  have HW := Lib.hid h
  obtain ⟨a, cap, rfl, h1, h2, _⟩ := h
  unfold maxLen at h2
  have HC : Hid (∀ k, k < L.length → ∃ b off, a = some ⟨b, off, none⟩ ∧ b < w.heap.size ∧ ∀ i, i < L.length → w.cell? ⟨b, off + i * 3, none⟩ = some (.int .i64 (bl L i)) ∧ w.cell? ⟨b, off + i * 3 + 1, none⟩ = some (.int .i64 (bb L i)) ∧ w.cell? ⟨b, off + i * 3 + 2, none⟩ = some (.int .i64 (br L i))) := fun k hk => (HW.out.cells (by omega)).2
  have HAt := Lib.hid hL.at
  have HSu := Lib.hid hL.sums
  have hl6 := hL.1
  have HSn := Lib.hid (fun j hj => And.intro (bxW_snoc L j hj) (And.intro (bxH_snoc L j hj (hL.at j hj).2.1.1) (bxD_snoc L j hj (hL.at j hj).2.2.1)))
  have HEn : Hid (L.take L.length = L) := Lib.hid (List.take_length ..)
  have HA : Hid (Below w.heap.size w ((w.alloc (.cells #[.int .i64 0, .int .i64 0, .int .i64 0] 29)).alloc (.cells #[.int .i64 0, .int .i64 0, .int .i64 0] 29))) := Lib.hid (((Below.refl _ _).alloc (Nat.le_refl _) _).alloc (by simp) _)
  have T2 := Lib.hid ((Three.new 29 w (.int .i64 0) (.int .i64 0) (.int .i64 0)).alloc (.cells #[.int .i64 0, .int .i64 0, .int .i64 0] 29))
  have T3 := Lib.hid (Three.new 29 (w.alloc (.cells #[.int .i64 0, .int .i64 0, .int .i64 0] 29)) (.int .i64 0) (.int .i64 0) (.int .i64 0))
  simp only [alloc_sz] at T3
  clear HW hL
  generalize hn : L.length = n at *
  have HN := Lib.hid hn
  clear hn
  go_enter Try.func54, Try.ntmps54
  go_wp2_with fail
  generalize (w.alloc (.cells #[.int .i64 0, .int .i64 0, .int .i64 0] 29)).alloc (.cells #[.int .i64 0, .int .i64 0, .int .i64 0] 29) = W at *
  go_loopw [4] (fun i wr => ∃ (j : Nat), j ≤ n ∧ i = .int .i64 j ∧ Hid (Below w.heap.size w wr) ∧ Hid (Three 29 wr w.heap.size (.int .i64 0) (.int .i64 0) (.int .i64 0)) ∧ Hid (Three 29 wr (w.heap.size + 1) (.int .i64 (bxW (L.take j))) (.int .i64 (bxH (L.take j))) (.int .i64 (bxD (L.take j))))) (fun i _ => n - (intOf i).toNat)
  case atStart => exact ⟨0, by omega, rfl, HA, T2, T3⟩
  case round =>
    clear T2 T3 HA
    obtain ⟨j, hj, rfl, HB, HT2, HT3⟩ := hrel
    by_cases hlt : j < n
    · obtain ⟨b, off, rfl, hb, hc⟩ := HC.out j hlt
      obtain ⟨c0, c1, c2⟩ := hc j hlt
      obtain ⟨n0, n1, n2⟩ := HSn.out j hlt
      obtain ⟨r0, r1, r2⟩ := HAt.out j hlt
      obtain ⟨s0, s1, s2⟩ := HSu.out j hj
      clear hc
      have HT3' := HT3
      generalize bxW (L.take j) = p0 at *
      generalize bxH (L.take j) = p1 at *
      generalize bxD (L.take j) = p2 at *
      generalize bl L j = q0 at *
      generalize bb L j = q1 at *
      generalize br L j = q2 at *
      have i0 : IntKind.i64.wrap (p0 + q0) = p0 + q0 := IntWalk.i64_in _ (by omega)
      have hlx : w.heap.size + 1 < wr.heap.size := HT3.out.lt
      obtain ⟨m1, hm1⟩ : ∃ m, (if p1 < q1 then q1 else p1) = m := ⟨_, rfl⟩
      obtain ⟨m2, hm2⟩ : ∃ m, (if p2 < q2 then q2 else p2) = m := ⟨_, rfl⟩
      have CC := Lib.hid (And.intro c0 (And.intro c1 c2))
      clear c0 c1 c2
      obtain ⟨x0, x1, x2⟩ := HT3.out.cells
      have c0 : wr.cell? ⟨b, off + j * 3, none⟩ = some (.int .i64 q0) := ((bcell HB.out).1 _ _ hb).trans CC.out.1
      have HBd := Lib.hid HB.out.drew
      have T2d : Hid (Three 29 wr.drew w.heap.size (.int .i64 0) (.int .i64 0) (.int .i64 0)) := Lib.hid (HT2.out.same rfl)
      have T3d : Hid (Three 29 wr.drew (w.heap.size + 1) (.int .i64 p0) (.int .i64 p1) (.int .i64 p2)) := Lib.hid (HT3.out.same rfl)
      go_wp2_with fail
      go_still_tail 9, (by kernel_rfl)
      change wpList _ _ _ _ _ wr.drew
      clear x0 x1 x2 c0 HB HT2 HT3 HT3'
      generalize wr.drew = w2 at *
      obtain ⟨x0, x1, x2⟩ := T3d.out.cells
      obtain ⟨y0, y1, y2⟩ := T3d.out.free
      have HB3 := Lib.hid (HBd.out.setCell (p := ⟨w.heap.size + 1, 0, none⟩) (by simp only; omega) (.int .i64 (p0 + q0)))
      have T2e := Lib.hid (T2d.out.aside (c := w.heap.size + 1) (o := 0) (by omega) (.int .i64 (p0 + q0)))
      have T3e := Lib.hid (T3d.out.set0 (.int .i64 (p0 + q0)))
      go_wp2_with fail
      clear x0 x1 x2 y0 y1 y2 T2d T3d HBd
      generalize w2.setCell ⟨w.heap.size + 1, 0, none⟩ (.int .i64 (p0 + q0)) = w3 at *
      obtain ⟨x0, x1, x2⟩ := T3e.out.cells
      have c1 : w3.cell? ⟨b, off + j * 3 + 1, none⟩ = some (.int .i64 q1) := ((bcell HB3.out).1 _ _ hb).trans CC.out.2.1
      have HBd := Lib.hid HB3.out.drew
      have T2d : Hid (Three 29 w3.drew w.heap.size (.int .i64 0) (.int .i64 0) (.int .i64 0)) := Lib.hid (T2e.out.same rfl)
      have T3d : Hid (Three 29 w3.drew (w.heap.size + 1) (.int .i64 (p0 + q0)) (.int .i64 p1) (.int .i64 p2)) := Lib.hid (T3e.out.same rfl)
      go_still_tail 9, (by kernel_rfl)
      change wpList _ _ _ _ _ w3.drew
      clear x0 x1 x2 c1 HB3 T2e T3e
      generalize w3.drew = w4 at *
      obtain ⟨x0, x1, x2⟩ := T3d.out.cells
      obtain ⟨y0, y1, y2⟩ := T3d.out.free
      have HB3 := Lib.hid (HBd.out.setCell (p := ⟨w.heap.size + 1, 1, none⟩) (by simp only; omega) (.int .i64 m1))
      have T2e := Lib.hid (T2d.out.aside (c := w.heap.size + 1) (o := 1) (by omega) (.int .i64 m1))
      have T3e := Lib.hid (T3d.out.set1 (.int .i64 m1))
      go_wp2_with fail
      clear x0 x1 x2 y0 y1 y2 T2d T3d HBd
      generalize w4.setCell ⟨w.heap.size + 1, 1, none⟩ (.int .i64 m1) = w5 at *
      obtain ⟨x0, x1, x2⟩ := T3e.out.cells
      have c1 : w5.cell? ⟨b, off + j * 3 + 2, none⟩ = some (.int .i64 q2) := ((bcell HB3.out).1 _ _ hb).trans CC.out.2.2
      have HBd := Lib.hid HB3.out.drew
      have T2d : Hid (Three 29 w5.drew w.heap.size (.int .i64 0) (.int .i64 0) (.int .i64 0)) := Lib.hid (T2e.out.same rfl)
      have T3d : Hid (Three 29 w5.drew (w.heap.size + 1) (.int .i64 (p0 + q0)) (.int .i64 m1) (.int .i64 p2)) := Lib.hid (T3e.out.same rfl)
      go_still_tail 9, (by kernel_rfl)
      change wpList _ _ _ _ _ w5.drew
      clear x0 x1 x2 c1 HB3 T2e T3e
      generalize w5.drew = w6 at *
      obtain ⟨x0, x1, x2⟩ := T3d.out.cells
      obtain ⟨y0, y1, y2⟩ := T3d.out.free
      have HB3 := Lib.hid (HBd.out.setCell (p := ⟨w.heap.size + 1, 2, none⟩) (by simp only; omega) (.int .i64 m2))
      have T2e := Lib.hid (T2d.out.aside (c := w.heap.size + 1) (o := 2) (by omega) (.int .i64 m2))
      have T3e := Lib.hid (T3d.out.set2 (.int .i64 m2))
      go_wp2_with fail
      go_roundw
      case rel =>
        refine ⟨j + 1, by omega, by first | rfl | go_num, HB3, T2e, Lib.hid ?_⟩
        rw [n0, n1, n2, max_if, max_if, hm1, hm2]
        exact T3e.out
      case measure => simp [intOf]; omega
    · obtain rfl : j = n := by omega
      have hEn := HEn.out
      rw [hEn] at HT3
      obtain ⟨x0, x1, x2⟩ := HT3.out.cells
      obtain ⟨z0, z1, z2⟩ := HT2.out.cells
      obtain ⟨t0, t1, t2⟩ := HT2.out.free
      have U := ((HT2.out.set0 (.int .i64 (bxW L))).set1 (.int .i64 (bxH L))).set2 (.int .i64 (bxD L))
      have HU := Lib.hid U.cells
      have HB2 := Lib.hid (((HB.out.setCell (p := ⟨w.heap.size, 0, none⟩) (Nat.le_refl _) (.int .i64 (bxW L))).setCell (p := ⟨w.heap.size, 1, none⟩) (Nat.le_refl _) (.int .i64 (bxH L))).setCell (p := ⟨w.heap.size, 2, none⟩) (Nat.le_refl _) (.int .i64 (bxD L)))
      clear U HB HT2 HT3 HSu HSn HAt
      go_wp2_with fail
      obtain ⟨g0, g1, g2⟩ := HU.out
      exact bodyPost_ret (v := bxV (bxW L) (bxH L) (bxD L)) (by simp [results, Try.results54, go_sem, bxV, g0, g1, g2]) rfl ⟨rfl, HB2.out⟩
end Go.Proofs.Ytdloeiaaokhniaa
