/- Mentions in the laws: sizes, copies, comparison, marks. -/
import Derived.Test.YtflnbpiegcepcaaIdxMen
import Derived.Test.YtflnbpiegcepcaaIdxMark
import Derived.StillTailTactics
namespace Go.Proofs.Ytflnbpiegcepcaa
open Go.RowKit
set_option maxHeartbeats 4000000
set_option maxRecDepth 100000
set_option linter.unusedVariables false

theorem menInfo : (Try.prog.info? 28).map (fun i => (i.zero, i.size, i.bytes)) = some (some (.agg #[.string ⟨#[]⟩, .int .i64 0]), 2, 24) := by kernel_rfl
theorem szMention_any (s : ByteArray) (p left : Int) (w : World) (h0 : 0 ≤ left) (h1 : left ≤ 1048576) (hs : s.size ≤ maxLen) :
    Calls Try.prog 28 #[.agg #[.string s, .int .i64 p], .int .i64 left] w fun e w' => e = .returned (.int .i64 (if left < s.size then -1 else left - s.size)) ∧ Below w.heap.size w w' := by
  unfold maxLen at hs
  have hw : IntKind.i64.wrap (left - (s.size : Int)) = left - s.size := IntWalk.i64_in _ (by omega)
  by_cases h : left < s.size
  · have hd : decide (left - (s.size : Int) < 0) = true := decide_eq_true (by omega)
    rw [if_pos h]
    clear h
    go_enter Try.func28, Try.ntmps28
    go_wp2_with fail
    go_ret
    exact ⟨rfl, (Below.refl _ _).alloc (Nat.le_refl _) _⟩
  · have hd : decide (left - (s.size : Int) < 0) = false := decide_eq_false (by omega)
    rw [if_neg h]
    clear h
    go_enter Try.func28, Try.ntmps28
    go_wp2_with fail
    go_ret
    exact ⟨rfl, (Below.refl _ _).alloc (Nat.le_refl _) _⟩
def Sized (n : Nat) (left : Int) (w : World) (e : Ending) (w' : World) : Prop := ∃ r : Int, e = .returned (.int .i64 r) ∧ r ≤ left ∧ (0 ≤ r → (n : Int) ≤ left) ∧ Below w.heap.size w w'
theorem szMentionS_any (v : Value) (M : List Men) (left : Int) (w : World) (h : SlM w v M) (hz : ∀ i, i < M.length → (mw M i).size ≤ maxLen) (h0 : 0 ≤ left) (h1 : left ≤ 1048576) :
    Calls Try.prog 11 #[v, .int .i64 left] w (Sized M.length left w) := by
  have HS := Lib.hid h
  have HZ := Lib.hid hz
  obtain ⟨a, cap, rfl, hc, hm⟩ := h.shape
  unfold maxLen at hm
  clear h hz
  have HEnd : Hid (∀ (r : Int) (w' : World), r ≤ left → (0 ≤ r → (M.length : Int) ≤ left) → Below w.heap.size w w' → Sized M.length left w (.returned (.int .i64 r)) w') := Lib.hid (fun r w' a b c => ⟨r, rfl, a, b, c⟩)
  obtain ⟨n, hn⟩ : ∃ n, M.length = n := ⟨_, rfl⟩
  rw [hn] at HS HZ HEnd hc ⊢
  clear hn
  have hw : IntKind.i64.wrap (left - (n : Int)) = left - n := IntWalk.i64_in _ (by omega)
  by_cases hl : left < n
  · have hd : decide (left - (n : Int) < 0) = true := decide_eq_true (by omega)
    go_enter Try.func11, Try.ntmps11
    go_wp2_with fail
    go_ret
    exact HEnd.out _ _ (by omega) (by omega) (Below.refl _ _)
  · have hd : decide (left - (n : Int) < 0) = false := decide_eq_false (by omega)
    go_enter Try.func11, Try.ntmps11
    go_wp2_with fail
    go_loopw [1, 5] (fun l i wr => ∃ (j : Nat) (y : Int), j ≤ n ∧ i = .int .i64 j ∧ l = .int .i64 y ∧ 0 ≤ y ∧ y ≤ left ∧ Hid (Below w.heap.size w wr)) (fun _ i _ => n - (intOf i).toNat)
    case atStart => exact ⟨0, left - n, by omega, rfl, rfl, by omega, by omega, Lib.hid (Below.refl _ _)⟩
    case round =>
      obtain ⟨j, y, hj, rfl, rfl, y0, y1, HB⟩ := hrel
      by_cases hlt : j < n
      · obtain ⟨b, off, rfl, hbl, hat⟩ := HS.out.at (by omega)
        obtain ⟨c0, c1⟩ := hat j hlt
        rw [← (bcell HB.out).1 _ _ hbl] at c0 c1
        have HC := Lib.hid (szMention_any (mw M j) (mp M j) y wr y0 (by omega) (HZ.out j hlt))
        clear hat
        generalize mw M j = s at *
        generalize mp M j = p at *
        go_wp2_with fail
        refine HC.out.mono ?_
        rintro e w2 ⟨rfl, b2⟩
        have HB2 : Hid (Below w.heap.size w w2) := Lib.hid (HB.out.trans (b2.mono HB.out.size))
        clear b2 HC c0 c1
        by_cases hy : y < s.size
        · rw [if_pos hy]
          go_wp2_with fail
          go_ret
          exact HEnd.out _ _ (by omega) (by omega) HB2.out
        · rw [if_neg hy]
          obtain ⟨z, hz⟩ : ∃ z, y - (s.size : Int) = z := ⟨_, rfl⟩
          have hz0 : 0 ≤ z := by omega
          have hz1 : z ≤ left := by omega
          have hd2 : decide (z < 0) = false := decide_eq_false (by omega)
          rw [hz]
          clear hz hy
          go_wp2_with fail
          go_roundw
          case rel => exact ⟨j + 1, z, by omega, by go_num, rfl, hz0, hz1, HB2⟩
          case measure => simp [intOf]; omega
      · obtain rfl : j = n := by omega
        go_wp2_with fail
        go_ret
        exact HEnd.out _ _ (by omega) (by omega) HB.out

theorem toMention_any (s : ByteArray) (p : Int) (w : World) :
    Calls Try.prog 29 #[.agg #[.string s, .int .i64 p]] w fun e w' => e = .returned (.agg #[.string s, .int .i64 p]) ∧ Below w.heap.size w w' := by
  go_enter Try.func29, Try.ntmps29
  go_wp2
  refine bodyPost_ret (v := .agg #[.string s, .int .i64 p]) (by simp [results, Try.results29, go_sem]) rfl ⟨rfl, ?_⟩
  exact (((Below.refl _ _).alloc (Nat.le_refl _) _).alloc (by simp) _).alloc (by simp; omega) _
/-- Mentions in a row of the call's own. -/
def OwnM (lo hi : Nat) (w : World) (v : Value) (M : List Men) : Prop := OwnC 28 2 lo hi w v M.length (mC M)
theorem OwnM.sl {lo hi : Nat} {w : World} {v : Value} {M : List Men} (h : OwnM lo hi w v M) : SlM w v M := OwnC.sl h
theorem mC_end (M : List Men) (C : List Value) (n : Nat) (hn : n = M.length) (h1 : C.length = n * 2) (h2 : ∀ j, j < n * 2 → C[j]? = (mC M)[j]?) : C = mC M := by
  subst hn
  apply List.ext_getElem?
  intro j
  by_cases hj : j < M.length * 2
  · exact h2 j hj
  · rw [List.getElem?_eq_none (by omega), List.getElem?_eq_none (by rw [mC_len]; omega)]
theorem toMentionS_any (v : Value) (M : List Men) (w : World) (hF : M.length ≤ 1048576) (h : SlM w v M) :
    Calls Try.prog 12 #[v] w fun e w' => ∃ v', e = .returned v' ∧ OwnM w.heap.size w'.heap.size w' v' M ∧ Below w.heap.size w w' := by
  have HW := Lib.hid h
  obtain ⟨a, cap, rfl, h1, h2⟩ := h.shape
  obtain ⟨i0, hi, hz0, hz1, hz2⟩ := info_parts menInfo
  obtain ⟨w1, hmk, hown, hgrow⟩ := run_make_full (P := Try.prog) w w.heap.size 23 28 i0 (.agg #[.string ⟨#[]⟩, .int .i64 0]) 2 Try.underlying23 hi hz0 hz1 .i64 .i64 M.length (by rw [hz2]; omega) (by unfold maxLen; omega) (Nat.le_refl _)
  have hb1 : Below w.heap.size w w1 := (Below.refl _ _).grown hgrow (Nat.le_refl _) (fun k hk => by simp at hk)
  have hsz : w.heap.size < w1.heap.size := (hown.lt _ rfl).2
  clear hi hz0 hz1 hz2 hgrow
  have HAt := Lib.hid (fun i (h : i < M.length) => mC_at M i h)
  have HO : Hid (∃ C : List Value, C.length = M.length * 2 ∧ (∀ j, j < 0 * 2 → C[j]? = (mC M)[j]?) ∧ w1.ownsRow w.heap.size 28 2 (.slice (some ⟨w.heap.size, 0, none⟩) M.length M.length) M.length C) := ⟨_, by simp [size_madeCells], fun j hj => by omega, hown⟩
  clear hown h
  unfold maxLen at h2
  have HEnd := Lib.hid (fun (C : List Value) h1 h2 => mC_end M C M.length rfl h1 h2)
  generalize hn : M.length = n at *
  have HN := Lib.hid hn
  clear hn
  go_enter Try.func12, Try.ntmps12
  go_wp2_with fail
  go_loopw [4] (fun i wr => ∃ k : Nat, k ≤ n ∧ i = .int .i64 k ∧ Hid (Below w.heap.size w wr) ∧ w1.heap.size ≤ wr.heap.size ∧ Hid (∃ C : List Value, C.length = n * 2 ∧ (∀ j, j < k * 2 → C[j]? = (mC M)[j]?) ∧ wr.ownsRow w.heap.size 28 2 (.slice (some ⟨w.heap.size, 0, none⟩) n n) n C)) (fun i _ => n - (intOf i).toNat)
  case atStart => exact ⟨0, by omega, rfl, Lib.hid hb1, Nat.le_refl _, HO⟩
  case round =>
    obtain ⟨k, hk, rfl, HB, hs, HM⟩ := hrel
    by_cases hlt : k < n
    · obtain ⟨b, off, rfl, hbl, hc⟩ := HW.out.at (by omega)
      obtain ⟨c0, c1⟩ := hc k hlt
      rw [← (bcell HB.out).1 _ _ hbl] at c0 c1
      have HA := Lib.hid (HAt.out k hlt)
      clear hc
      generalize mw M k = s at *
      generalize mp M k = p at *
      go_wp2_with fail
      refine (toMention_any s p _).mono ?_
      rintro e w3 ⟨rfl, b3⟩
      have hb3 := HB.out.trans (b3.mono HB.out.size)
      have hs3 := Nat.le_trans hs b3.size
      obtain ⟨C, hCl, hCe, hCo⟩ := HM.out
      have hCo3 : w3.ownsRow w.heap.size 28 2 (.slice (some ⟨w.heap.size, 0, none⟩) n n) n C := ((ownC_of hCo).below b3).row
      obtain ⟨o0, ho0⟩ : ∃ u, C[k * 2]? = some u := ⟨_, List.getElem?_eq_getElem (by omega)⟩
      obtain ⟨o1, ho1⟩ : ∃ u, C[k * 2 + 1]? = some u := ⟨_, List.getElem?_eq_getElem (by omega)⟩
      have d0 : w3.cell? ⟨w.heap.size, k * 2, none⟩ = some o0 := (hCo3.cellAt (k * 2) (by omega)).trans ho0
      have d1 : w3.cell? ⟨w.heap.size, k * 2 + 1, none⟩ = some o1 := (hCo3.cellAt (k * 2 + 1) (by omega)).trans ho1
      have f0 : w3.frozen? ⟨w.heap.size, k * 2, none⟩ = false := hCo3.frozenAt _
      have f1 : w3.frozen? ⟨w.heap.size, k * 2 + 1, none⟩ = false := hCo3.frozenAt _
      have HS : Hid (∃ C : List Value, C.length = n * 2 ∧ (∀ j, j < (k + 1) * 2 → C[j]? = (mC M)[j]?) ∧ ((w3.setCell ⟨w.heap.size, k * 2, none⟩ (.string s)).setCell ⟨w.heap.size, k * 2 + 1, none⟩ (.int .i64 p)).ownsRow w.heap.size 28 2 (.slice (some ⟨w.heap.size, 0, none⟩) n n) n C) := by
        refine ⟨(C.set (k * 2) (.string s)).set (k * 2 + 1) (.int .i64 p), by simpa using hCl, fun j hj => ?_, ?_⟩
        · by_cases e1 : j = k * 2 + 1
          · subst e1
            rw [List.getElem?_set_self (by simp; omega)]; exact HA.out.2.symm
          · rw [List.getElem?_set_ne (by omega)]
            by_cases e0 : j = k * 2
            · subst e0
              rw [List.getElem?_set_self (by omega)]; exact HA.out.1.symm
            · rw [List.getElem?_set_ne (by omega)]
              exact hCe j (by omega)
        · exact ((hCo3.stored (k * 2) (.string s)).1.stored (k * 2 + 1) (.int .i64 p)).1
      have HB3 : Hid (Below w.heap.size w ((w3.setCell ⟨w.heap.size, k * 2, none⟩ (.string s)).setCell ⟨w.heap.size, k * 2 + 1, none⟩ (.int .i64 p))) := Lib.hid ((hb3.setCell (Nat.le_refl _) _).setCell (Nat.le_refl _) _)
      clear HB b3 hb3 hCe hCo hCo3 ho0 ho1 HM hCl c0 c1
      go_wp2_with fail
      go_roundw
      case rel => exact ⟨k + 1, by omega, by go_num, HB3, by simpa [World.setCell] using hs3, HS⟩
      case measure => simp [intOf]; omega
    · obtain rfl : k = n := by omega
      go_wp2_with fail
      go_ret
      obtain ⟨C, hCl, hCe, hCo⟩ := HM.out
      obtain rfl := HEnd.out C hCl hCe
      refine ⟨_, rfl, ?_, HB.out⟩
      unfold OwnM
      rw [HN.out]
      exact ⟨hCo, fun j hj => (hCo.lt j hj).2, Nat.le_refl _⟩

theorem eqMention_same (s : ByteArray) (p : Int) (w : World) :
    Calls Try.prog 31 #[.agg #[.string s, .int .i64 p], .agg #[.string s, .int .i64 p]] w fun e w' => e = .returned (.bool true) ∧ Below w.heap.size w w' := by
  have h1 : (s.toList == s.toList) = true := by simp
  have h2 : (p != p) = false := by simp
  go_enter Try.func31, Try.ntmps31
  go_wp2
  go_ret
  exact ⟨rfl, ((Below.refl _ _).alloc (Nat.le_refl _) _).alloc (by simp) _⟩
theorem eqMentionS_same (u v : Value) (M : List Men) (w : World) (hu : SlM w u M) (hv : SlM w v M) :
    Calls Try.prog 14 #[u, v] w fun e w' => e = .returned (.bool true) ∧ Below w.heap.size w w' := by
  have HU := Lib.hid hu
  have HV := Lib.hid hv
  obtain ⟨a, cap, rfl, h1, h2⟩ := hu.shape
  obtain ⟨a', cap', rfl, h1', h2'⟩ := hv.shape
  unfold maxLen at h2 h2'
  have hnn : ((M.length : Int) != (M.length : Int)) = false := by simp
  clear hu hv
  obtain ⟨n, hn⟩ : ∃ n, M.length = n := ⟨_, rfl⟩
  rw [hn] at HU HV h1 h1' hnn ⊢
  clear hn
  go_enter Try.func14, Try.ntmps14
  go_wp2_with fail
  go_loopw [5] (fun i wr => ∃ k : Nat, k ≤ n ∧ i = .int .i64 k ∧ Hid (Below w.heap.size w wr)) (fun i _ => n - (intOf i).toNat)
  case atStart => exact ⟨0, by omega, rfl, Lib.hid (Below.refl _ _)⟩
  case round =>
    obtain ⟨k, hk, rfl, HB⟩ := hrel
    by_cases hlt : k < n
    · obtain ⟨b, off, rfl, hbl, hat⟩ := HU.out.at (by omega)
      obtain ⟨b', off', rfl, hbl', hat'⟩ := HV.out.at (by omega)
      obtain ⟨c0, c1⟩ := hat k hlt
      obtain ⟨d0, d1⟩ := hat' k hlt
      rw [← (bcell HB.out).1 _ _ hbl] at c0 c1
      rw [← (bcell HB.out).1 _ _ hbl'] at d0 d1
      have HB2 : Hid (Below w.heap.size w wr.drew) := Lib.hid HB.out.drew
      clear hat hat' HB
      generalize mw M k = s at *
      generalize mp M k = p at *
      go_wp2_with fail
      go_still_tail 8, (by kernel_rfl)
      clear c0 c1 d0 d1
      go_wp2_with fail
      refine (eqMention_same s p _).mono ?_
      rintro e w3 ⟨rfl, b3⟩
      have HB3 : Hid (Below w.heap.size w w3) := Lib.hid (HB2.out.trans (b3.mono HB2.out.size))
      clear b3
      go_wp2_with fail
      go_roundw
      case rel => exact ⟨k + 1, by omega, by go_num, HB3⟩
      case measure => simp [intOf]; omega
    · obtain rfl : k = n := by omega
      go_wp2_with fail
      go_ret
      exact ⟨rfl, HB.out⟩

theorem markMentionS_any (lo hi : Nat) (v : Value) (C : List Value) (n k : Nat) (w : World) (hk : 0 < k) (hkn : k + 2 * n ≤ 100000000) (h : OwnC 28 2 lo hi w v n C) :
    Calls Try.prog 15 #[v, .int .i64 k] w fun e w' => e = .returned (.int .i64 (k + 2 * n : Nat)) ∧ Wrote lo hi w w' := by
  have HO : Hid (∃ C, w.ownsRow lo 28 2 v n C) := Lib.hid ⟨C, h.row⟩
  have HTop := Lib.hid h.top
  obtain ⟨a, cap, e, h1, h2, _⟩ := h.sl
  subst e
  unfold maxLen at h2
  clear h
  go_enter Try.func15, Try.ntmps15
  go_wp2_with fail
  go_loopw [1, 5] (fun x i wr => ∃ j : Nat, j ≤ n ∧ i = .int .i64 j ∧ x = .int .i64 (k + 2 * j : Nat) ∧ Hid (∃ C, wr.ownsRow lo 28 2 (.slice a n cap) n C) ∧ Hid (Wrote lo hi w wr)) (fun _ i _ => n - (intOf i).toNat)
  case atStart => exact ⟨0, by omega, rfl, by simp, HO, Lib.hid (Wrote.refl _ _ _)⟩
  case round =>
    clear HO
    obtain ⟨j, hj, rfl, rfl, HO, HW⟩ := hrel
    by_cases hlt : j < n
    · obtain ⟨g, e⟩ : ∃ g, a = some ⟨g, 0, none⟩ := by
        obtain ⟨C, hC⟩ := HO.out
        rcases hC.2 with ⟨e, e0⟩ | ⟨g, cap', cur, e, _⟩
        · omega
        · injection e with e _ _; exact ⟨g, e⟩
      subst e
      have hghi : g < hi := HTop.out g rfl
      have hglo : lo ≤ g := by obtain ⟨C, hC⟩ := HO.out; exact (hC.lt g rfl).1
      obtain ⟨m, hm⟩ : ∃ m : Nat, k + 2 * j = m := ⟨_, rfl⟩
      have hm0 : 0 < m := by omega
      have hm1 : m ≤ 100000000 := by omega
      have HM : Hid (m + 1 + 1 = k + 2 * (j + 1)) := Lib.hid (by omega)
      rw [hm]
      have hm2 : m + 2 ≤ 100000002 := by omega
      clear hm
      go_wp2_with fail
      refine (markText_any m _ hm0 (by omega)).mono ?_
      rintro e w1 ⟨rfl, b1⟩
      obtain ⟨C, hC⟩ := HO.out
      have hC1 : w1.ownsRow lo 28 2 (.slice (some ⟨g, 0, none⟩) n cap) n C := ((ownC_of hC).below b1).row
      have hl := hC1.1
      obtain ⟨o0, ho0⟩ : ∃ u, C[j * 2]? = some u := ⟨_, List.getElem?_eq_getElem (by omega)⟩
      obtain ⟨o1, ho1⟩ : ∃ u, C[j * 2 + 1]? = some u := ⟨_, List.getElem?_eq_getElem (by omega)⟩
      have d0 : w1.cell? ⟨g, j * 2, none⟩ = some o0 := (hC1.cellAt (j * 2) (by omega)).trans ho0
      have d1 : w1.cell? ⟨g, j * 2 + 1, none⟩ = some o1 := (hC1.cellAt (j * 2 + 1) (by omega)).trans ho1
      have f0 : w1.frozen? ⟨g, j * 2, none⟩ = false := hC1.frozenAt _
      have f1 : w1.frozen? ⟨g, j * 2 + 1, none⟩ = false := hC1.frozenAt _
      have HO2 : Hid (∃ C, ((w1.setCell ⟨g, j * 2, none⟩ (.string (mkT m))).setCell ⟨g, j * 2 + 1, none⟩ (.int .i64 ((m : Int) + 1))).ownsRow lo 28 2 (.slice (some ⟨g, 0, none⟩) n cap) n C) := Lib.hid ⟨_, ((hC1.stored (j * 2) (.string (mkT m))).1.stored (j * 2 + 1) (.int .i64 ((m : Int) + 1))).1⟩
      have HW2 : Hid (Wrote lo hi w ((w1.setCell ⟨g, j * 2, none⟩ (.string (mkT m))).setCell ⟨g, j * 2 + 1, none⟩ (.int .i64 ((m : Int) + 1)))) := Lib.hid (((HW.out.trans (Wrote.of_below b1)).trans (Wrote.set hglo hghi)).trans (Wrote.set hglo hghi))
      clear hC hC1 ho0 ho1 b1 HO HW hl
      generalize mkT m = tm at *
      go_wp2_with fail
      go_roundw
      case rel => exact ⟨j + 1, by omega, by go_num, by rw [← HM.out]; go_num, HO2, HW2⟩
      case measure => simp [intOf]; omega
    · obtain rfl : j = n := by omega
      go_wp2_with fail
      go_ret
      exact ⟨rfl, HW.out⟩
end Go.Proofs.Ytflnbpiegcepcaa
