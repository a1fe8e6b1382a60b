/- Slices of figures: the helpers of the laws that copy, compare and mark them. -/
import Derived.Test.YtfiogefigjnaiaaFigDelay
import Derived.StillTailTactics
namespace Go.Proofs.Ytfiogefigjnaiaa
open Go.RowKit
set_option maxHeartbeats 1000000
set_option maxRecDepth 100000

theorem figInfo : (Try.prog.info? 46).map (fun i => (i.zero, i.size, i.bytes)) = some (some (.agg #[.int .i64 0, .int .i64 0]), 2, 16) := by kernel_rfl
/-- A row of figures of the call's own. -/
def OwnF (lo hi : Nat) (w : World) (v : Value) (F : List (Int × Int)) : Prop := OwnC 46 2 lo hi w v F.length (figC F)
theorem OwnF.sl {lo hi : Nat} {w : World} {v : Value} {F : List (Int × Int)} (h : OwnF lo hi w v F) : SlF w v F := OwnC.sl h
theorem figC_app : ∀ (A B : List (Int × Int)), figC (A ++ B) = figC A ++ figC B
  | [], B => rfl
  | p :: r, B => by simp [figC, figC_app r B]
theorem figC_set : ∀ (F : List (Int × Int)) (k : Nat) (p : Int × Int), k < F.length → ((figC F).set (k * 2) (.int .i64 p.1)).set (k * 2 + 1) (.int .i64 p.2) = figC (F.set k p)
  | [], k, p, h => by simp at h
  | q :: r, 0, p, _ => by simp [figC]
  | q :: r, k + 1, p, h => by
    have := figC_set r k p (by simpa using h)
    rw [show (k + 1) * 2 = k * 2 + 1 + 1 by omega, show k * 2 + 1 + 1 + 1 = (k * 2 + 1) + 1 + 1 by omega]
    simp only [figC, List.set_cons_succ]
    rw [this]
theorem figC_rep (n : Nat) : figC (List.replicate n (0, 0)) = List.replicate (n * 2) (.int .i64 0) := by
  induction n with
  | zero => rfl
  | succ n ih => rw [List.replicate_succ, figC, ih, show (n + 1) * 2 = n * 2 + 1 + 1 by omega, List.replicate_succ, List.replicate_succ]

theorem toFigure_any (x y : Int) (w : World) :
    Calls Try.prog 27 #[.agg #[.int .i64 x, .int .i64 y]] w fun e w' => e = .returned (.agg #[.int .i64 x, .int .i64 y]) ∧ Below w.heap.size w w' := by
  go_enter Try.func27, Try.ntmps27
  go_wp2
  refine bodyPost_ret (v := .agg #[.int .i64 x, .int .i64 y]) (by simp [results, Try.results27, go_sem]) rfl ⟨rfl, ?_⟩
  exact (((Below.refl _ _).alloc (Nat.le_refl _) _).alloc (by simp) _).alloc (by simp; omega) _

theorem toFigureS_any (v : Value) (F : List (Int × Int)) (w : World) (hF : F.length ≤ 1048576) (h : SlF w v F) :
    Calls Try.prog 10 #[v] w fun e w' => ∃ v', e = .returned v' ∧ OwnF w.heap.size w'.heap.size w' v' F ∧ Below w.heap.size w w' := by
  have HW := Lib.hid h
  obtain ⟨a, cap, rfl, h1, h2, _⟩ := h
  obtain ⟨i0, hi, hz0, hz1, hz2⟩ := info_parts figInfo
  obtain ⟨w1, hmk, hown, hgrow⟩ := run_make_full (P := Try.prog) w w.heap.size 26 46 i0 (.agg #[.int .i64 0, .int .i64 0]) 2 Try.underlying26 hi hz0 hz1 .i64 .i64 F.length (by rw [hz2]; omega) (by unfold maxLen; omega) (Nat.le_refl _)
  have hb1 : Below w.heap.size w w1 := (Below.refl _ _).grown hgrow (Nat.le_refl _) (fun k hk => by simp at hk)
  have hsz : w.heap.size < w1.heap.size := (hown.lt _ rfl).2
  clear hi hz0 hz1 hz2 hgrow
  have HC : Hid (∀ k, k < F.length → ∃ b off, a = some ⟨b, off, none⟩ ∧ b < w.heap.size ∧ ∀ i, i < F.length → w.cell? ⟨b, off + i * 2, none⟩ = some (.int .i64 (fh F i)) ∧ w.cell? ⟨b, off + i * 2 + 1, none⟩ = some (.int .i64 (fp F i))) := fun k hk => (HW.out.cells (by omega)).2
  have HLen : Hid ((figC F).length = F.length * 2) := figC_len F
  have HAt := Lib.hid (figC_at F)
  have HFl : Hid (F.length = F.length) := rfl
  have HO : Hid (∃ C : List Value, C.length = F.length * 2 ∧ (∀ j, j < 0 * 2 → C[j]? = (figC F)[j]?) ∧ w1.ownsRow w.heap.size 46 2 (.slice (some ⟨w.heap.size, 0, none⟩) F.length F.length) F.length C) := ⟨_, by simp [size_madeCells], fun j hj => by omega, hown⟩
  clear hown HW
  unfold maxLen at h2
  have HEnd : Hid (∀ C : List Value, C.length = F.length * 2 → (∀ j, j < F.length * 2 → C[j]? = (figC F)[j]?) → C = figC F) := Lib.hid (fun C h1 h2 => by
    apply List.ext_getElem?
    intro j
    by_cases hj : j < F.length * 2
    · exact h2 j hj
    · rw [List.getElem?_eq_none (by omega), List.getElem?_eq_none (by rw [figC_len]; omega)])
  generalize hn : F.length = n at *
  have HN := Lib.hid hn
  clear hn
  go_enter Try.func10, Try.ntmps10
  go_wp2_with fail
  go_loopw [4] (fun i wr => ∃ k : Nat, k ≤ n ∧ i = .int .i64 k ∧ Below w.heap.size w wr ∧ w1.heap.size ≤ wr.heap.size ∧ Hid (∃ C : List Value, C.length = n * 2 ∧ (∀ j, j < k * 2 → C[j]? = (figC F)[j]?) ∧ wr.ownsRow w.heap.size 46 2 (.slice (some ⟨w.heap.size, 0, none⟩) n n) n C)) (fun i _ => n - (intOf i).toNat)
  case atStart => exact ⟨0, by omega, rfl, hb1, Nat.le_refl _, HO⟩
  case round =>
    obtain ⟨k, hk, rfl, hb, hs, HM⟩ := hrel
    by_cases hlt : k < n
    · obtain ⟨b, off, rfl, hbl, hc⟩ := HC.out k hlt
      have c0 := (hb.cell (p := ⟨b, off + k * 2, none⟩) hbl).trans (hc k hlt).1
      have c1 := (hb.cell (p := ⟨b, off + k * 2 + 1, none⟩) hbl).trans (hc k hlt).2
      have hA := HAt.out k (by have := HN.out; omega)
      clear hc
      generalize fh F k = x at *
      generalize fp F k = y at *
      have HA := Lib.hid hA
      clear hA
      go_wp2_with fail
      refine (toFigure_any x y _).mono ?_
      rintro e w3 ⟨rfl, b3⟩
      have hb3 := hb.trans (b3.mono hb.size)
      have hs3 := Nat.le_trans hs b3.size
      obtain ⟨C, hCl, hCe, hCo⟩ := HM.out
      have hCo3 : w3.ownsRow w.heap.size 46 2 (.slice (some ⟨w.heap.size, 0, none⟩) n n) n C := ((ownC_of hCo).below b3).row
      obtain ⟨o0, ho0⟩ : ∃ u, C[k * 2]? = some u := ⟨_, List.getElem?_eq_getElem (by omega)⟩
      obtain ⟨o1, ho1⟩ : ∃ u, C[k * 2 + 1]? = some u := ⟨_, List.getElem?_eq_getElem (by omega)⟩
      have d0 : w3.cell? ⟨w.heap.size, k * 2, none⟩ = some o0 := (hCo3.cellAt (k * 2) (by omega)).trans ho0
      have d1 : w3.cell? ⟨w.heap.size, k * 2 + 1, none⟩ = some o1 := (hCo3.cellAt (k * 2 + 1) (by omega)).trans ho1
      have f0 : w3.frozen? ⟨w.heap.size, k * 2, none⟩ = false := hCo3.frozenAt _
      have f1 : w3.frozen? ⟨w.heap.size, k * 2 + 1, none⟩ = false := hCo3.frozenAt _
      have HS : Hid (∃ C : List Value, C.length = n * 2 ∧ (∀ j, j < (k + 1) * 2 → C[j]? = (figC F)[j]?) ∧ ((w3.setCell ⟨w.heap.size, k * 2, none⟩ (.int .i64 x)).setCell ⟨w.heap.size, k * 2 + 1, none⟩ (.int .i64 y)).ownsRow w.heap.size 46 2 (.slice (some ⟨w.heap.size, 0, none⟩) n n) n C) := by
        refine ⟨(C.set (k * 2) (.int .i64 x)).set (k * 2 + 1) (.int .i64 y), by simpa using hCl, fun j hj => ?_, ?_⟩
        · by_cases e1 : j = k * 2 + 1
          · subst e1
            rw [List.getElem?_set_self (by simp; omega)]; exact HA.out.2.symm
          · rw [List.getElem?_set_ne (by omega)]
            by_cases e0 : j = k * 2
            · subst e0
              rw [List.getElem?_set_self (by omega)]; exact HA.out.1.symm
            · rw [List.getElem?_set_ne (by omega)]
              exact hCe j (by omega)
        · exact ((hCo3.stored (k * 2) (.int .i64 x)).1.stored (k * 2 + 1) (.int .i64 y)).1
      have HB3 := Lib.hid hb3
      clear hb b3 hb3 hCe hCo hCo3 ho0 ho1 HM hCl c0 c1
      go_wp2_with fail
      go_roundw
      case rel => exact ⟨k + 1, by omega, by go_num, (HB3.out.setCell (Nat.le_refl _) _).setCell (Nat.le_refl _) _, by simpa [World.setCell] using hs3, HS⟩
      case measure => simp [intOf]; omega
    · obtain rfl : k = n := by omega
      go_wp2_with fail
      go_ret
      obtain ⟨C, hCl, hCe, hCo⟩ := HM.out
      obtain rfl := HEnd.out C hCl hCe
      refine ⟨_, rfl, ?_, hb⟩
      unfold OwnF
      rw [HN.out]
      exact ⟨hCo, fun j hj => (hCo.lt j hj).2, Nat.le_refl _⟩

theorem eqFigure_same (x y : Int) (w : World) :
    Calls Try.prog 28 #[.agg #[.int .i64 x, .int .i64 y], .agg #[.int .i64 x, .int .i64 y]] w fun e w' => e = .returned (.bool true) ∧ Below w.heap.size w w' := by
  have h1 : (x != x) = false := by simp
  have h2 : (y != y) = false := by simp
  go_enter Try.func28, Try.ntmps28
  go_wp2
  go_ret
  exact ⟨rfl, ((Below.refl _ _).alloc (Nat.le_refl _) _).alloc (by simp) _⟩

/-- Two slices that read alike are equal. -/
theorem eqFigureS_same (u v : Value) (F : List (Int × Int)) (w : World) (hu : SlF w u F) (hv : SlF w v F) :
    Calls Try.prog 13 #[u, v] w fun e w' => e = .returned (.bool true) ∧ Below w.heap.size w w' := by
  have HU := Lib.hid hu
  have HV := Lib.hid hv
  obtain ⟨a, cap, rfl, h1, h2, _⟩ := hu
  obtain ⟨a', cap', rfl, h1', h2', _⟩ := hv
  unfold maxLen at h2 h2'
  have HC : Hid (∀ k, k < F.length → ∃ b off, a = some ⟨b, off, none⟩ ∧ b < w.heap.size ∧ ∀ i, i < F.length → w.cell? ⟨b, off + i * 2, none⟩ = some (.int .i64 (fh F i)) ∧ w.cell? ⟨b, off + i * 2 + 1, none⟩ = some (.int .i64 (fp F i))) := fun k hk => (HU.out.cells (by omega)).2
  have HC' : Hid (∀ k, k < F.length → ∃ b off, a' = some ⟨b, off, none⟩ ∧ b < w.heap.size ∧ ∀ i, i < F.length → w.cell? ⟨b, off + i * 2, none⟩ = some (.int .i64 (fh F i)) ∧ w.cell? ⟨b, off + i * 2 + 1, none⟩ = some (.int .i64 (fp F i))) := fun k hk => (HV.out.cells (by omega)).2
  have hnn : ((F.length : Int) != (F.length : Int)) = false := by simp
  clear HU HV
  generalize hn : F.length = n at *
  clear hn
  go_enter Try.func13, Try.ntmps13
  go_wp2_with fail
  go_loopw [5] (fun i wr => ∃ k : Nat, k ≤ n ∧ i = .int .i64 k ∧ Below w.heap.size w wr) (fun i _ => n - (intOf i).toNat)
  case atStart => exact ⟨0, by omega, rfl, Below.refl _ _⟩
  case round =>
    obtain ⟨k, hk, rfl, hb⟩ := hrel
    by_cases hlt : k < n
    · obtain ⟨b, off, rfl, hbl, hc⟩ := HC.out k hlt
      obtain ⟨b', off', rfl, hbl', hc'⟩ := HC'.out k hlt
      have c0 := (hb.cell (p := ⟨b, off + k * 2, none⟩) hbl).trans (hc k hlt).1
      have c1 := (hb.cell (p := ⟨b, off + k * 2 + 1, none⟩) hbl).trans (hc k hlt).2
      have d0 := (hb.cell (p := ⟨b', off' + k * 2, none⟩) hbl').trans (hc' k hlt).1
      have d1 := (hb.cell (p := ⟨b', off' + k * 2 + 1, none⟩) hbl').trans (hc' k hlt).2
      have HB := Lib.hid hb
      clear hc hc' hb
      generalize fh F k = x at *
      generalize fp F k = y at *
      go_wp2_with fail
      go_still_tail 8, (by kernel_rfl)
      have HB2 : Hid (Below w.heap.size w wr.drew) := Lib.hid HB.out.drew
      clear c0 c1 d0 d1
      go_wp2_with fail
      refine (eqFigure_same x y _).mono ?_
      rintro e w3 ⟨rfl, b3⟩
      have hb3 := HB2.out.trans (b3.mono HB2.out.size)
      clear b3
      go_wp2_with fail
      go_roundw
      case rel => exact ⟨k + 1, by omega, by go_num, hb3⟩
      case measure => simp [intOf]; omega
    · obtain rfl : k = n := by omega
      go_wp2_with fail
      go_ret
      exact ⟨rfl, hb⟩

def MarkedF (lo hi : Nat) (v : Value) (n : Nat) (m : Int) (w : World) (e : Ending) (w' : World) : Prop := e = .returned (.int .i64 m) ∧ ∃ C, OwnC 46 2 lo hi w' v n C ∧ w.grownBy w' v.ownBlock
/-- Marking every figure leaves a row of the call's own. -/
theorem markFigureS_any (lo hi : Nat) (v : Value) (F : List (Int × Int)) (k : Int) (w : World) (hk : 0 ≤ k) (hkn : k + 2 * F.length ≤ 1000000000) (h : OwnF lo hi w v F) :
    Calls Try.prog 17 #[v, .int .i64 k] w (MarkedF lo hi v F.length (k + 2 * F.length) w) := by
  have HW := Lib.hid (show OwnC 46 2 lo hi w v F.length (figC F) from h)
  rcases h.row.2 with ⟨rfl, h0⟩ | ⟨g, cap, cur, rfl, h1, h2, h3, h4, h5, h6⟩
  · rw [h0] at HW hkn ⊢
    clear h h0
    go_enter Try.func17, Try.ntmps17
    go_wp2_with fail
    go_loop [1, 5] (fun t i => t = .int .i64 k ∧ i = .int .i64 0) (fun _ _ => 0)
    case atStart => exact ⟨rfl, rfl⟩
    case round =>
      obtain ⟨rfl, rfl⟩ := hrel
      go_wp2_with fail
      go_ret
      exact ⟨by simp, _, HW.out, World.grownBy.refl _ _⟩
  · clear h2 h5 h6 h
    unfold maxLen at h4
    have HT := Lib.hid (show g < hi from HW.out.top g rfl)
    have HG : Hid (w.grownBy w (some g)) := World.grownBy.refl _ _
    have HR : Hid (∃ C : List Value, C.length = F.length * 2 ∧ w.ownsRow lo 46 2 (.slice (some ⟨g, 0, none⟩) F.length cap) F.length C) := ⟨_, figC_len F, HW.out.row⟩
    have HF := Lib.hid HW.out.fits
    generalize F.length = n at *
    clear HW
    go_enter Try.func17, Try.ntmps17
    go_wp2_with fail
    go_loopw [1, 5] (fun t i wr => ∃ j : Nat, j ≤ n ∧ t = .int .i64 (k + 2 * j) ∧ i = .int .i64 j ∧ Hid (w.grownBy wr (some g)) ∧ Hid (∃ C : List Value, C.length = n * 2 ∧ wr.ownsRow lo 46 2 (.slice (some ⟨g, 0, none⟩) n cap) n C)) (fun _ i _ => n - (intOf i).toNat)
    case atStart => exact ⟨0, by omega, by simp, rfl, HG, HR⟩
    case round =>
      obtain ⟨j, hj, rfl, rfl, HGr, HM⟩ := hrel
      by_cases hlt : j < n
      · obtain ⟨C, hCl, hCo⟩ := HM.out
        obtain ⟨o0, ho0⟩ : ∃ u, C[j * 2]? = some u := ⟨_, List.getElem?_eq_getElem (by omega)⟩
        obtain ⟨o1, ho1⟩ : ∃ u, C[j * 2 + 1]? = some u := ⟨_, List.getElem?_eq_getElem (by omega)⟩
        have d0 : wr.cell? ⟨g, j * 2, none⟩ = some o0 := (hCo.cellAt (j * 2) (by omega)).trans ho0
        have d1 : wr.cell? ⟨g, j * 2 + 1, none⟩ = some o1 := (hCo.cellAt (j * 2 + 1) (by omega)).trans ho1
        have f0 : wr.frozen? ⟨g, j * 2, none⟩ = false := hCo.frozenAt _
        have f1 : wr.frozen? ⟨g, j * 2 + 1, none⟩ = false := hCo.frozenAt _
        have HS : Hid (∀ x y : Int, w.grownBy ((wr.setCell ⟨g, j * 2, none⟩ (.int .i64 x)).setCell ⟨g, j * 2 + 1, none⟩ (.int .i64 y)) (some g) ∧ ∃ C : List Value, C.length = n * 2 ∧ ((wr.setCell ⟨g, j * 2, none⟩ (.int .i64 x)).setCell ⟨g, j * 2 + 1, none⟩ (.int .i64 y)).ownsRow lo 46 2 (.slice (some ⟨g, 0, none⟩) n cap) n C) := Lib.hid (fun x y => by
          have s1 := hCo.stored (j * 2) (.int .i64 x)
          have s2 := s1.1.stored (j * 2 + 1) (.int .i64 y)
          exact ⟨grownBy_trans (grownBy_trans HGr.out s1.2) s2.2, _, by simpa using hCl, s2.1⟩)
        clear HM hCl hCo ho0 ho1
        go_wp2_with fail
        go_roundw
        case rel => exact ⟨j + 1, by omega, by rw [show k + 2 * (j : Int) + 1 + 1 = k + 2 * ((j + 1 : Nat) : Int) by omega], by go_num, (HS.out _ _).1, (HS.out _ _).2⟩
        case measure => simp [intOf]; omega
      · obtain rfl : j = n := by omega
        go_wp2_with fail
        go_ret
        obtain ⟨C, hCl, hCo⟩ := HM.out
        refine ⟨rfl, C, ⟨hCo, fun t ht => ?_, Nat.le_trans HF.out HGr.out.size⟩, HGr.out⟩
        have : g = t := by simpa [Value.ownBlock] using ht
        exact this ▸ HT.out

theorem szFigureS_any (a : Option Addr) (len cap : Nat) (left : Int) (w : World) (h1 : 0 ≤ left) (h2 : left ≤ 1048576) (hl : len ≤ maxLen) :
    Calls Try.prog 8 #[.slice a len cap, .int .i64 left] w fun e w' => e = .returned (.int .i64 (if left < len then -1 else left - len)) ∧ w = w' := by
  unfold maxLen at hl
  by_cases h : left < len
  · have hd : decide (left - (len : Int) < 0) = true := by simp; omega
    go_enter Try.func8, Try.ntmps8
    go_wp2
    go_ret
    exact ⟨rfl, rfl⟩
  · have hd : decide (left - (len : Int) < 0) = false := by simp; omega
    go_enter Try.func8, Try.ntmps8
    go_wp2
    go_ret
    exact ⟨rfl, rfl⟩
end Go.Proofs.Ytfiogefigjnaiaa
