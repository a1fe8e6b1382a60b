/- Slices of blocks: the helpers of the laws that copy and compare them. -/
import Derived.Test.YtgppljadkpoklaaDoorBlkValid
import Derived.StillTailTactics
import Derived.Laws.OwnMore
namespace Go.Proofs.YtgppljadkpoklaaDoor
open Go.RowKit
set_option maxHeartbeats 1000000
set_option maxRecDepth 100000

theorem blkInfo : (Tryd.prog.info? 31).map (fun i => (i.zero, i.size, i.bytes)) = some (some (.agg #[.int .i64 0, .int .i64 0, .int .i64 0]), 3, 24) := by kernel_rfl
/-- A row of blocks of the call's own. -/
def OwnB (lo hi : Nat) (w : World) (v : Value) (B : List Blk) : Prop := OwnC 31 3 lo hi w v B.length (blkC B)
theorem OwnB.sl {lo hi : Nat} {w : World} {v : Value} {B : List Blk} (h : OwnB lo hi w v B) : SlB w v B := OwnC.sl h

theorem toBlock_any (x y z : Int) (w : World) :
    Calls Tryd.prog 41 #[.agg #[.int .i64 x, .int .i64 y, .int .i64 z]] w fun e w' => e = .returned (.agg #[.int .i64 x, .int .i64 y, .int .i64 z]) ∧ Below w.heap.size w w' := by
  go_enter Tryd.func41, Tryd.ntmps41
  go_wp2
  refine bodyPost_ret (v := .agg #[.int .i64 x, .int .i64 y, .int .i64 z]) (by simp [results, Tryd.results41, go_sem]) rfl ⟨rfl, ?_⟩
  exact (((Below.refl _ _).alloc (Nat.le_refl _) _).alloc (by simp) _).alloc (by simp; omega) _

theorem toBlockS_any (v : Value) (B : List Blk) (w : World) (hF : B.length ≤ 1048576) (h : SlB w v B) :
    Calls Tryd.prog 16 #[v] w fun e w' => ∃ v', e = .returned v' ∧ OwnB w.heap.size w'.heap.size w' v' B ∧ Below w.heap.size w w' := by
  have HW := Lib.hid h
  obtain ⟨a, cap, rfl, h1, h2, _⟩ := h
  obtain ⟨i0, hi, hz0, hz1, hz2⟩ := info_parts blkInfo
  obtain ⟨w1, hmk, hown, hgrow⟩ := run_make_full (P := Tryd.prog) w w.heap.size 23 31 i0 (.agg #[.int .i64 0, .int .i64 0, .int .i64 0]) 3 Tryd.underlying23 hi hz0 hz1 .i64 .i64 B.length (by rw [hz2]; omega) (by unfold maxLen; omega) (Nat.le_refl _)
  have hb1 : Below w.heap.size w w1 := (Below.refl _ _).grown hgrow (Nat.le_refl _) (fun k hk => by simp at hk)
  have hsz : w.heap.size < w1.heap.size := (hown.lt _ rfl).2
  clear hi hz0 hz1 hz2 hgrow
  have HC : Hid (∀ k, k < B.length → ∃ b off, a = some ⟨b, off, none⟩ ∧ b < w.heap.size ∧ ∀ i, i < B.length → w.cell? ⟨b, off + i * 3, none⟩ = some (.int .i64 (bl B i)) ∧ w.cell? ⟨b, off + i * 3 + 1, none⟩ = some (.int .i64 (bb B i)) ∧ w.cell? ⟨b, off + i * 3 + 2, none⟩ = some (.int .i64 (br B i))) := fun k hk => (HW.out.cells (by omega)).2
  have HAt := Lib.hid (blkC_at B)
  have HO : Hid (∃ C : List Value, C.length = B.length * 3 ∧ (∀ j, j < 0 * 3 → C[j]? = (blkC B)[j]?) ∧ w1.ownsRow w.heap.size 31 3 (.slice (some ⟨w.heap.size, 0, none⟩) B.length B.length) B.length C) := ⟨_, by simp [size_madeCells], fun j hj => by omega, hown⟩
  clear hown HW
  unfold maxLen at h2
  have HEnd : Hid (∀ C : List Value, C.length = B.length * 3 → (∀ j, j < B.length * 3 → C[j]? = (blkC B)[j]?) → C = blkC B) := Lib.hid (fun C h1 h2 => by
    apply List.ext_getElem?
    intro j
    by_cases hj : j < B.length * 3
    · exact h2 j hj
    · rw [List.getElem?_eq_none (by omega), List.getElem?_eq_none (by rw [blkC_len]; omega)])
  generalize hn : B.length = n at *
  have HN := Lib.hid hn
  clear hn
  go_enter Tryd.func16, Tryd.ntmps16
  go_wp2_with fail
  go_loopw [4] (fun i wr => ∃ k : Nat, k ≤ n ∧ i = .int .i64 k ∧ Below w.heap.size w wr ∧ w1.heap.size ≤ wr.heap.size ∧ Hid (∃ C : List Value, C.length = n * 3 ∧ (∀ j, j < k * 3 → C[j]? = (blkC B)[j]?) ∧ wr.ownsRow w.heap.size 31 3 (.slice (some ⟨w.heap.size, 0, none⟩) n n) n C)) (fun i _ => n - (intOf i).toNat)
  case atStart => exact ⟨0, by omega, rfl, hb1, Nat.le_refl _, HO⟩
  case round =>
    obtain ⟨k, hk, rfl, hb, hs, HM⟩ := hrel
    by_cases hlt : k < n
    · obtain ⟨b, off, rfl, hbl, hc⟩ := HC.out k hlt
      have c0 := (hb.cell (p := ⟨b, off + k * 3, none⟩) hbl).trans (hc k hlt).1
      have c1 := (hb.cell (p := ⟨b, off + k * 3 + 1, none⟩) hbl).trans (hc k hlt).2.1
      have c2 := (hb.cell (p := ⟨b, off + k * 3 + 2, none⟩) hbl).trans (hc k hlt).2.2
      have hA := HAt.out k (by have := HN.out; omega)
      clear hc
      generalize bl B k = x at *
      generalize bb B k = y at *
      generalize br B k = z at *
      have HA := Lib.hid hA
      clear hA
      go_wp2_with fail
      refine (toBlock_any x y z _).mono ?_
      rintro e w3 ⟨rfl, b3⟩
      have hb3 := hb.trans (b3.mono hb.size)
      have hs3 := Nat.le_trans hs b3.size
      obtain ⟨C, hCl, hCe, hCo⟩ := HM.out
      have hCo3 : w3.ownsRow w.heap.size 31 3 (.slice (some ⟨w.heap.size, 0, none⟩) n n) n C := ((ownC_of hCo).below b3).row
      obtain ⟨o0, ho0⟩ : ∃ u, C[k * 3]? = some u := ⟨_, List.getElem?_eq_getElem (by omega)⟩
      obtain ⟨o1, ho1⟩ : ∃ u, C[k * 3 + 1]? = some u := ⟨_, List.getElem?_eq_getElem (by omega)⟩
      obtain ⟨o2, ho2⟩ : ∃ u, C[k * 3 + 2]? = some u := ⟨_, List.getElem?_eq_getElem (by omega)⟩
      have d0 : w3.cell? ⟨w.heap.size, k * 3, none⟩ = some o0 := (hCo3.cellAt (k * 3) (by omega)).trans ho0
      have d1 : w3.cell? ⟨w.heap.size, k * 3 + 1, none⟩ = some o1 := (hCo3.cellAt (k * 3 + 1) (by omega)).trans ho1
      have d2 : w3.cell? ⟨w.heap.size, k * 3 + 2, none⟩ = some o2 := (hCo3.cellAt (k * 3 + 2) (by omega)).trans ho2
      have f0 : w3.frozen? ⟨w.heap.size, k * 3, none⟩ = false := hCo3.frozenAt _
      have f1 : w3.frozen? ⟨w.heap.size, k * 3 + 1, none⟩ = false := hCo3.frozenAt _
      have f2 : w3.frozen? ⟨w.heap.size, k * 3 + 2, none⟩ = false := hCo3.frozenAt _
      have HS : Hid (∃ C : List Value, C.length = n * 3 ∧ (∀ j, j < (k + 1) * 3 → C[j]? = (blkC B)[j]?) ∧ (((w3.setCell ⟨w.heap.size, k * 3, none⟩ (.int .i64 x)).setCell ⟨w.heap.size, k * 3 + 1, none⟩ (.int .i64 y)).setCell ⟨w.heap.size, k * 3 + 2, none⟩ (.int .i64 z)).ownsRow w.heap.size 31 3 (.slice (some ⟨w.heap.size, 0, none⟩) n n) n C) := by
        refine ⟨((C.set (k * 3) (.int .i64 x)).set (k * 3 + 1) (.int .i64 y)).set (k * 3 + 2) (.int .i64 z), by simpa using hCl, fun j hj => ?_, ?_⟩
        · by_cases e2 : j = k * 3 + 2
          · subst e2
            rw [List.getElem?_set_self (by simp; omega)]; exact HA.out.2.2.symm
          · rw [List.getElem?_set_ne (by omega)]
            by_cases e1 : j = k * 3 + 1
            · subst e1
              rw [List.getElem?_set_self (by simp; omega)]; exact HA.out.2.1.symm
            · rw [List.getElem?_set_ne (by omega)]
              by_cases e0 : j = k * 3
              · subst e0
                rw [List.getElem?_set_self (by omega)]; exact HA.out.1.symm
              · rw [List.getElem?_set_ne (by omega)]
                exact hCe j (by omega)
        · exact (((hCo3.stored (k * 3) (.int .i64 x)).1.stored (k * 3 + 1) (.int .i64 y)).1.stored (k * 3 + 2) (.int .i64 z)).1
      have HB3 := Lib.hid hb3
      clear hb b3 hb3 hCe hCo hCo3 ho0 ho1 ho2 HM hCl c0 c1 c2
      go_wp2_with fail
      go_roundw
      case rel => exact ⟨k + 1, by omega, by go_num, ((HB3.out.setCell (Nat.le_refl _) _).setCell (Nat.le_refl _) _).setCell (Nat.le_refl _) _, by simpa [World.setCell] using hs3, HS⟩
      case measure => simp [intOf]; omega
    · obtain rfl : k = n := by omega
      go_wp2_with fail
      go_ret
      obtain ⟨C, hCl, hCe, hCo⟩ := HM.out
      obtain rfl := HEnd.out C hCl hCe
      refine ⟨_, rfl, ?_, hb⟩
      unfold OwnB
      rw [HN.out]
      exact ⟨hCo, fun j hj => (hCo.lt j hj).2, Nat.le_refl _⟩

theorem eqBlock_same (x y z : Int) (w : World) :
    Calls Tryd.prog 42 #[.agg #[.int .i64 x, .int .i64 y, .int .i64 z], .agg #[.int .i64 x, .int .i64 y, .int .i64 z]] w fun e w' => e = .returned (.bool true) ∧ Below w.heap.size w w' := by
  have h1 : (x != x) = false := by simp
  have h2 : (y != y) = false := by simp
  have h3 : (z != z) = false := by simp
  go_enter Tryd.func42, Tryd.ntmps42
  go_wp2
  go_ret
  exact ⟨rfl, ((Below.refl _ _).alloc (Nat.le_refl _) _).alloc (by simp) _⟩

/-- Two slices that read alike are equal. -/
theorem eqBlockS_same (u v : Value) (B : List Blk) (w : World) (hu : SlB w u B) (hv : SlB w v B) :
    Calls Tryd.prog 19 #[u, v] w fun e w' => e = .returned (.bool true) ∧ Below w.heap.size w w' := by
  have HU := Lib.hid hu
  have HV := Lib.hid hv
  obtain ⟨a, cap, rfl, h1, h2, _⟩ := hu
  obtain ⟨a', cap', rfl, h1', h2', _⟩ := hv
  unfold maxLen at h2 h2'
  have HC : Hid (∀ k, k < B.length → ∃ b off, a = some ⟨b, off, none⟩ ∧ b < w.heap.size ∧ ∀ i, i < B.length → w.cell? ⟨b, off + i * 3, none⟩ = some (.int .i64 (bl B i)) ∧ w.cell? ⟨b, off + i * 3 + 1, none⟩ = some (.int .i64 (bb B i)) ∧ w.cell? ⟨b, off + i * 3 + 2, none⟩ = some (.int .i64 (br B i))) := fun k hk => (HU.out.cells (by omega)).2
  have HC' : Hid (∀ k, k < B.length → ∃ b off, a' = some ⟨b, off, none⟩ ∧ b < w.heap.size ∧ ∀ i, i < B.length → w.cell? ⟨b, off + i * 3, none⟩ = some (.int .i64 (bl B i)) ∧ w.cell? ⟨b, off + i * 3 + 1, none⟩ = some (.int .i64 (bb B i)) ∧ w.cell? ⟨b, off + i * 3 + 2, none⟩ = some (.int .i64 (br B i))) := fun k hk => (HV.out.cells (by omega)).2
  have hnn : ((B.length : Int) != (B.length : Int)) = false := by simp
  clear HU HV
  generalize hn : B.length = n at *
  clear hn
  go_enter Tryd.func19, Tryd.ntmps19
  go_wp2_with fail
  go_loopw [5] (fun i wr => ∃ k : Nat, k ≤ n ∧ i = .int .i64 k ∧ Below w.heap.size w wr) (fun i _ => n - (intOf i).toNat)
  case atStart => exact ⟨0, by omega, rfl, Below.refl _ _⟩
  case round =>
    obtain ⟨k, hk, rfl, hb⟩ := hrel
    by_cases hlt : k < n
    · obtain ⟨b, off, rfl, hbl, hc⟩ := HC.out k hlt
      obtain ⟨b', off', rfl, hbl', hc'⟩ := HC'.out k hlt
      have c0 := (hb.cell (p := ⟨b, off + k * 3, none⟩) hbl).trans (hc k hlt).1
      have c1 := (hb.cell (p := ⟨b, off + k * 3 + 1, none⟩) hbl).trans (hc k hlt).2.1
      have c2 := (hb.cell (p := ⟨b, off + k * 3 + 2, none⟩) hbl).trans (hc k hlt).2.2
      have d0 := (hb.cell (p := ⟨b', off' + k * 3, none⟩) hbl').trans (hc' k hlt).1
      have d1 := (hb.cell (p := ⟨b', off' + k * 3 + 1, none⟩) hbl').trans (hc' k hlt).2.1
      have d2 := (hb.cell (p := ⟨b', off' + k * 3 + 2, none⟩) hbl').trans (hc' k hlt).2.2
      have HB := Lib.hid hb
      clear hc hc' hb
      generalize bl B k = x at *
      generalize bb B k = y at *
      generalize br B k = z at *
      go_wp2_with fail
      go_still_tail 8, (by kernel_rfl)
      have HB2 : Hid (Below w.heap.size w wr.drew) := Lib.hid HB.out.drew
      clear c0 c1 c2 d0 d1 d2
      go_wp2_with fail
      refine (eqBlock_same x y z _).mono ?_
      rintro e w3 ⟨rfl, b3⟩
      have hb3 := HB2.out.trans (b3.mono HB2.out.size)
      clear b3
      go_wp2_with fail
      go_roundw
      case rel => exact ⟨k + 1, by omega, by go_num, hb3⟩
      case measure => simp [intOf]; omega
    · obtain rfl : k = n := by omega
      go_wp2_with fail
      go_ret
      exact ⟨rfl, hb⟩

theorem szBlockS_any (a : Option Addr) (len cap : Nat) (left : Int) (w : World) (h1 : 0 ≤ left) (h2 : left ≤ 1048576) (hl : len ≤ maxLen) :
    Calls Tryd.prog 15 #[.slice a len cap, .int .i64 left] w fun e w' => e = .returned (.int .i64 (if left < len then -1 else left - len)) ∧ w = w' := by
  unfold maxLen at hl
  by_cases h : left < len
  · have hd : decide (left - (len : Int) < 0) = true := by simp; omega
    go_enter Tryd.func15, Tryd.ntmps15
    go_wp2
    go_ret
    exact ⟨rfl, rfl⟩
  · have hd : decide (left - (len : Int) < 0) = false := by simp; omega
    go_enter Tryd.func15, Tryd.ntmps15
    go_wp2
    go_ret
    exact ⟨rfl, rfl⟩

end Go.Proofs.YtgppljadkpoklaaDoor
