/- Slices of ints: marking every cell and holding the marks against the list. -/
import Derived.Test.YtckmkjkckadfjaaDoorInts
namespace Go.Proofs.YtckmkjkckadfjaaDoor
open Go.RowKit
set_option maxHeartbeats 400000

theorem grownBy_trans {a b c : World} {row : Option Nat} (h : a.grownBy b row) (k : b.grownBy c row) : a.grownBy c row :=
  ⟨k.os.trans h.os, k.tape.trans h.tape, k.output.trans h.output, Nat.le_trans h.size k.size, fun i hi hn => (k.block i (Nat.lt_of_lt_of_le hi h.size) hn).trans (h.block i hi hn)⟩

def marks (k : Int) (n : Nat) : List Int := (List.range n).map (fun j : Nat => k + (j : Int))
theorem marks_length (k : Int) (n : Nat) : (marks k n).length = n := by simp [marks]
theorem marks_getD (k : Int) (n j : Nat) (h : j < n) : (marks k n).getD j 0 = k + j := by simp [marks, List.getD_eq_getElem?_getD, h]

def Marked (lo hi : Nat) (v : Value) (k : Int) (n : Nat) (w : World) (e : Ending) (w' : World) : Prop := e = .returned (.int .i64 (k + n)) ∧ OwnI lo hi w' v (marks k n) ∧ w.grownBy w' v.ownBlock

theorem markIntS_any (lo hi : Nat) (v : Value) (L : List Int) (k : Int) (w : World) (hk : 0 ≤ k) (hkn : k + L.length ≤ 1000000000) (h : OwnI lo hi w v L) :
    Calls Tryd.prog 13 #[v, .int .i64 k] w (Marked lo hi v k L.length w) := by
  have HW := Lib.hid h
  rcases h.row.2 with ⟨rfl, h0⟩ | ⟨g, cap, cur, rfl, h1, h2, h3, h4, h5, h6⟩
  · have : L = [] := List.length_eq_zero_iff.1 h0
    subst this
    have h00 : decide ((0 : Int) < 0) = false := rfl
    clear h
    go_enter Tryd.func13, Tryd.ntmps13
    go_wp2_with fail
    go_loop [1, 5] (fun t i => t = .int .i64 k ∧ i = .int .i64 0) (fun _ _ => 0)
    case atStart => exact ⟨rfl, rfl⟩
    case round =>
      obtain ⟨rfl, rfl⟩ := hrel
      go_wp2_with fail
      go_ret
      refine ⟨by simp, ?_, World.grownBy.refl _ _⟩
      exact HW.out
  · clear h2 h5 h6 h
    unfold maxLen at h4
    have htop := HW.out.top g rfl
    have hgl := (HW.out.row.lt g rfl).2
    have HG : Hid (w.grownBy w (some g)) := World.grownBy.refl _ _
    have HR : Hid (∃ M : List Int, M.length = L.length ∧ (∀ j, j < 0 → M.getD j 0 = k + j) ∧ w.ownsRow lo 3 1 (.slice (some ⟨g, 0, none⟩) L.length cap) L.length (M.map (Value.int .i64))) := ⟨L, rfl, fun j hj => by omega, HW.out.row⟩
    have HF := Lib.hid HW.out.fits
    generalize L.length = n at *
    clear HW
    go_enter Tryd.func13, Tryd.ntmps13
    go_wp2_with fail
    go_loopw [1, 5] (fun t i wr => ∃ j : Nat, j ≤ n ∧ t = .int .i64 (k + j) ∧ i = .int .i64 j ∧ Hid (w.grownBy wr (some g)) ∧ Hid (∃ M : List Int, M.length = n ∧ (∀ t, t < j → M.getD t 0 = k + t) ∧ wr.ownsRow lo 3 1 (.slice (some ⟨g, 0, none⟩) n cap) n (M.map (Value.int .i64)))) (fun _ i _ => n - (intOf i).toNat)
    case atStart => exact ⟨0, by omega, by simp, rfl, HG, HR⟩
    case round =>
      obtain ⟨j, hj, rfl, rfl, HGr, HM⟩ := hrel
      by_cases hlt : j < n
      · obtain ⟨M, hMl, hMe, hMo⟩ := HM.out
        have hco : wr.cell? ⟨g, j, none⟩ = some (.int .i64 (M.getD j 0)) := by
          rw [hMo.cellAt j (by omega)]; exact getD_map_int M j (by omega)
        have hfo : wr.frozen? ⟨g, j, none⟩ = false := hMo.frozenAt j
        have HS : Hid (w.grownBy (wr.setCell ⟨g, j, none⟩ (.int .i64 (k + j))) (some g) ∧ ∃ M : List Int, M.length = n ∧ (∀ t, t < j + 1 → M.getD t 0 = k + t) ∧ (wr.setCell ⟨g, j, none⟩ (.int .i64 (k + j))).ownsRow lo 3 1 (.slice (some ⟨g, 0, none⟩) n cap) n (M.map (Value.int .i64))) := by
          refine ⟨grownBy_trans HGr.out (hMo.stored j _).2, M.set j (k + j), by simpa using hMl, fun t ht => ?_, ?_⟩
          · by_cases hjk : t = j
            · subst hjk; simp [List.getD_eq_getElem?_getD, hMl, hlt]
            · rw [List.getD_eq_getElem?_getD, List.getElem?_set_ne (by omega), ← List.getD_eq_getElem?_getD]; exact hMe t (by omega)
          · rw [List.map_set]; exact (hMo.stored j _).1
        generalize M.getD j 0 = z0 at *
        clear HM hMl hMe hMo
        go_wp2_with fail
        go_roundw
        case rel => exact ⟨j + 1, by omega, by rw [show k + (j : Int) + 1 = k + ((j + 1 : Nat) : Int) by omega], by go_num, HS.out.1, HS.out.2⟩
        case measure => simp [intOf]; omega
      · obtain rfl : j = n := by omega
        go_wp2_with fail
        go_ret
        obtain ⟨M, hMl, hMe, hMo⟩ := HM.out
        have : M = marks k j := getD_ext _ _ (by rw [hMl, marks_length]) (fun t ht => by rw [hMe t (by omega), marks_getD _ _ _ (by omega)])
        subst this
        refine ⟨rfl, ⟨by rw [marks_length]; exact hMo, fun t ht => ?_, Nat.le_trans HF.out HGr.out.size⟩, HGr.out⟩
        obtain rfl : g = t := by simpa [Value.ownBlock] using ht
        exact htop

theorem heldIntS_any (v : Value) (k : Int) (n : Nat) (w : World) (hk : 0 ≤ k) (hkn : k + n ≤ 1000000000) (h : SlI w v (marks k n)) :
    Calls Tryd.prog 14 #[v, .int .i64 k] w fun e w' => e = .returned (.int .i64 (k + n)) ∧ w = w' := by
  have HW := Lib.hid h
  obtain ⟨a, cap, rfl, h1, h2, _⟩ := h
  rw [marks_length] at h1 HW ⊢
  unfold maxLen at h2
  go_enter Tryd.func14, Tryd.ntmps14
  go_wp2_with fail
  go_loop [1, 5] (fun t i => ∃ j : Nat, j ≤ n ∧ t = .int .i64 (k + j) ∧ i = .int .i64 j) (fun _ i => n - (intOf i).toNat)
  case atStart => exact ⟨0, by omega, by simp, rfl⟩
  case round =>
    obtain ⟨j, hj, rfl, rfl⟩ := hrel
    by_cases hlt : j < n
    · obtain ⟨b, off, rfl, _, h4⟩ := HW.out.cells (by omega)
      have c1 := h4 j hlt
      rw [marks_getD _ _ _ hlt] at c1
      clear h4
      have hne : ((k + (j : Int)) != (k + j)) = false := by simp
      go_wp2_with fail
      go_round
      case rel => exact ⟨j + 1, by omega, by rw [show k + (j : Int) + 1 = k + ((j + 1 : Nat) : Int) by omega], by go_num⟩
      case measure => simp [intOf]; omega
    · obtain rfl : j = n := by omega
      go_wp2_with fail
      go_ret
      exact ⟨rfl, rfl⟩
end Go.Proofs.YtckmkjkckadfjaaDoor
