/- RowBox of valid boxes. -/
import Derived.Test.YtdloeiaaokhniaaFmLaw2
namespace Go.Proofs.Ytdloeiaaokhniaa
open Go.RowKit
open FL
set_option maxHeartbeats 2000000
set_option maxRecDepth 100000
set_option linter.unusedVariables false

theorem validBox_ok (x y z : Int) (w : World) (hx : 0 ≤ x ∧ x ≤ 10000) (hy : 0 ≤ y ∧ y ≤ 10000) (hz : 0 ≤ z ∧ z ≤ 10000) :
    Calls Try.prog 55 #[.agg #[.int .i64 x, .int .i64 y, .int .i64 z]] w fun e w' => e = .returned (.bool true) ∧ Below w.heap.size w w' := by
  have hb : Below w.heap.size w (w.alloc (.cells #[.int .i64 x, .int .i64 y, .int .i64 z] 29)) := (Below.refl _ _).alloc (Nat.le_refl _) _
  have px : decide (0 ≤ x ∧ x ≤ 10000) = true := decide_eq_true hx
  have py : decide (0 ≤ y ∧ y ≤ 10000) = true := decide_eq_true hy
  have pz : decide (0 ≤ z ∧ z ≤ 10000) = true := decide_eq_true hz
  have HB := Lib.hid hb
  clear hx hy hz hb
  go_enter Try.func55, Try.ntmps55
  go_wp2_with fail
  refine (within_any _ _ _ _).mono ?_
  rintro e w1 ⟨rfl, rfl⟩
  go_wp2_with fail
  refine (within_any _ _ _ _).mono ?_
  rintro e w1 ⟨rfl, rfl⟩
  go_wp2_with fail
  refine (within_any _ _ _ _).mono ?_
  rintro e w1 ⟨rfl, rfl⟩
  rw [pz]
  go_wp2_with fail
  go_ret
  exact ⟨rfl, HB.out⟩
def InBx (L : List Blk) : Prop := ∀ k, k < L.length → (0 ≤ bl L k ∧ bl L k ≤ 10000) ∧ (0 ≤ bb L k ∧ bb L k ≤ 10000) ∧ (0 ≤ br L k ∧ br L k ≤ 10000)
theorem validBoxes_ok (v : Value) (L : List Blk) (w : World) (h : SlB w v L) (hl : L.length ≤ 20) (hL : InBx L) :
    Calls Try.prog 41 #[v] w fun e w' => e = .returned (.bool true) ∧ Below w.heap.size w w' := by
  have HW := Lib.hid h
  obtain ⟨a, cap, rfl, h1, h2, -⟩ := h
  unfold maxLen at h2
  have HC : Hid (∀ k, k < L.length → ∃ b off, a = some ⟨b, off, none⟩ ∧ b < w.heap.size ∧ ∀ i, i < L.length → w.cell? ⟨b, off + i * 3, none⟩ = some (.int .i64 (bl L i)) ∧ w.cell? ⟨b, off + i * 3 + 1, none⟩ = some (.int .i64 (bb L i)) ∧ w.cell? ⟨b, off + i * 3 + 2, none⟩ = some (.int .i64 (br L i))) := fun k hk => (HW.out.cells (by omega)).2
  have HL : Hid (∀ k, k < L.length → (0 ≤ bl L k ∧ bl L k ≤ 10000) ∧ (0 ≤ bb L k ∧ bb L k ≤ 10000) ∧ (0 ≤ br L k ∧ br L k ≤ 10000)) := Lib.hid hL
  have HB0 : Hid (Below w.heap.size w w) := Lib.hid (Below.refl _ _)
  clear HW hL
  generalize L.length = n at *
  go_enter Try.func41, Try.ntmps41
  go_wp2_with fail
  go_loopw [4, 7] (fun _ i wr => ∃ (j : Nat), j ≤ n ∧ i = .int .i64 j ∧ Hid (Below w.heap.size w wr)) (fun _ i _ => n - (intOf i).toNat)
  case atStart => exact ⟨0, by omega, rfl, HB0⟩
  case round =>
    obtain ⟨j, hj, rfl, HB⟩ := hrel
    by_cases hlt : j < n
    · obtain ⟨b, off, rfl, hb, hc⟩ := HC.out j hlt
      obtain ⟨c0, c1, c2⟩ := hc j hlt
      rw [← (bcell HB.out).1 _ _ hb] at c0 c1 c2
      obtain ⟨n0, n1, n2⟩ := HL.out j hlt
      clear hc
      generalize bl L j = q0 at *
      generalize bb L j = q1 at *
      generalize br L j = q2 at *
      have HB1 := Lib.hid (HB.out.alloc HB.out.size (.cells #[.int .i64 q0, .int .i64 q1, .int .i64 q2] 29))
      have HV := Lib.hid (fun (w' : World) => validBox_ok q0 q1 q2 w' n0 n1 n2)
      clear n0 n1 n2
      go_wp2_with fail
      refine (HV.out _).mono ?_
      rintro e w2 ⟨rfl, b2⟩
      have HB2 := Lib.hid (HB1.out.trans (b2.mono HB1.out.size))
      clear b2 HB1 HB HV c0 c1 c2
      go_wp2_with fail
      go_roundw
      case rel => exact ⟨j + 1, by omega, by first | rfl | go_num, HB2⟩
      case measure => simp [intOf]; omega
    · obtain rfl : j = n := by omega
      have e : decide ((j : Int) ≤ 20) = true := decide_eq_true (by omega)
      have e' : decide (j ≤ 20) = true := decide_eq_true hl
      go_wp2_with fail
      go_ret
      exact ⟨rfl, HB.out⟩
theorem checkedBox_ok (x y z : Int) (w : World) (hx : 0 ≤ x ∧ x ≤ 10000) (hy : 0 ≤ y ∧ y ≤ 10000) (hz : 0 ≤ z ∧ z ≤ 10000) :
    Calls Try.prog 42 #[.agg #[.int .i64 x, .int .i64 y, .int .i64 z]] w fun e w' => e = .returned (.tuple #[bxV x y z, .bool true]) ∧ Below w.heap.size w w' := by
  have HA : Hid (Below w.heap.size w ((w.alloc (.cells #[.int .i64 x, .int .i64 y, .int .i64 z] 29)).alloc (.cells #[.int .i64 0, .int .i64 0, .int .i64 0] 29))) := Lib.hid (((Below.refl _ _).alloc (Nat.le_refl _) _).alloc (by simp) _)
  have F0 := Lib.hid ((Three.new 29 w (.int .i64 x) (.int .i64 y) (.int .i64 z)).alloc (.cells #[.int .i64 0, .int .i64 0, .int .i64 0] 29))
  have T0 := Lib.hid (Three.new 29 (w.alloc (.cells #[.int .i64 x, .int .i64 y, .int .i64 z] 29)) (.int .i64 0) (.int .i64 0) (.int .i64 0))
  simp only [alloc_sz] at T0
  have HV := Lib.hid (fun (w' : World) => validBox_ok x y z w' hx hy hz)
  clear hx hy hz
  go_enter Try.func42, Try.ntmps42
  go_wp2_with fail
  generalize (w.alloc (.cells #[.int .i64 x, .int .i64 y, .int .i64 z] 29)).alloc (.cells #[.int .i64 0, .int .i64 0, .int .i64 0] 29) = W at *
  refine (HV.out W).mono ?_
  rintro e w1 ⟨rfl, b1⟩
  have HB := HA.out.trans (b1.mono HA.out.size)
  have T1 := T0.out.below b1
  obtain ⟨s0, s1, s2⟩ := (F0.out.below b1).cells
  obtain ⟨t0, t1, t2⟩ := T1.cells
  obtain ⟨y0, y1, y2⟩ := T1.free
  have HU := Lib.hid (((T1.set0 (.int .i64 x)).set1 (.int .i64 y)).set2 (.int .i64 z)).cells
  have HB6 := Lib.hid (((HB.setCell (p := ⟨w.heap.size + 1, 0, none⟩) (by simp only; omega) (.int .i64 x)).setCell (p := ⟨w.heap.size + 1, 1, none⟩) (by simp only; omega) (.int .i64 y)).setCell (p := ⟨w.heap.size + 1, 2, none⟩) (by simp only; omega) (.int .i64 z))
  clear b1 HB T1 F0 T0 HA HV
  go_wp2_with fail
  obtain ⟨g0, g1, g2⟩ := HU.out
  exact bodyPost_ret (v := .tuple #[bxV x y z, .bool true]) (by simp [results, Try.results42, go_sem, bxV, g0, g1, g2]) rfl ⟨rfl, HB6.out⟩
theorem rowBox_ok (v : Value) (L : List Blk) (w : World) (h : SlB w v L) (hB : BxOk L) (hL : InBx L) (hx : 0 ≤ bxW L ∧ bxW L ≤ 10000) (hy : 0 ≤ bxH L ∧ bxH L ≤ 10000) (hz : 0 ≤ bxD L ∧ bxD L ≤ 10000) :
    Calls Try.prog 22 #[v] w fun e w' => e = .returned (.tuple #[bxV (bxW L) (bxH L) (bxD L), .bool true]) ∧ Below w.heap.size w w' := by
  have hl := hB.1
  obtain ⟨av, cv, rfl⟩ : ∃ a c, v = .slice a L.length c := by obtain ⟨a, c, e, _⟩ := h; exact ⟨a, c, e⟩
  have HA : Hid (Below w.heap.size w (w.alloc (.cells #[.int .i64 0, .int .i64 0, .int .i64 0] 29))) := Lib.hid ((Below.refl _ _).alloc (Nat.le_refl _) _)
  have T0 := Lib.hid (Three.new 29 w (.int .i64 0) (.int .i64 0) (.int .i64 0))
  have HS := Lib.hid (h.below HA.out)
  have HV := Lib.hid (fun (w' : World) (h : SlB w' (.slice av L.length cv) L) => validBoxes_ok _ L w' h (by omega) hL)
  have HR := Lib.hid (fun (w' : World) (h : SlB w' (.slice av L.length cv) L) => besides_any _ L w' h hB)
  generalize bxW L = p0 at *
  generalize bxH L = p1 at *
  generalize bxD L = p2 at *
  have HC := Lib.hid (fun (w' : World) => checkedBox_ok p0 p1 p2 w' hx hy hz)
  unfold bxV at HR HC
  clear hx hy hz h hL hB
  go_enter Try.func22, Try.ntmps22
  go_wp2_with fail
  generalize w.alloc (.cells #[.int .i64 0, .int .i64 0, .int .i64 0] 29) = W at *
  refine (HV.out W HS.out).mono ?_
  rintro e w1 ⟨rfl, b1⟩
  have HB1 := Lib.hid (HA.out.trans (b1.mono HA.out.size))
  have T1 := Lib.hid (T0.out.below b1)
  have HS1 := Lib.hid (HS.out.below b1)
  clear b1 HA T0 HS
  go_wp2_with fail
  refine (HR.out w1 HS1.out).mono ?_
  rintro e w2 ⟨rfl, b2⟩
  have HB2 := Lib.hid (HB1.out.trans (b2.mono HB1.out.size))
  have T2 := Lib.hid (T1.out.below b2)
  clear b2 HB1 T1 HS1
  go_wp2_with fail
  refine (HC.out w2).mono ?_
  rintro e w3 ⟨rfl, b3⟩
  have HB3 := HB2.out.trans (b3.mono HB2.out.size)
  have T3 := T2.out.below b3
  obtain ⟨t0, t1, t2⟩ := T3.cells
  obtain ⟨y0, y1, y2⟩ := T3.free
  have HU := Lib.hid (((T3.set0 (.int .i64 p0)).set1 (.int .i64 p1)).set2 (.int .i64 p2)).cells
  have HB6 := Lib.hid (((HB3.setCell (p := ⟨w.heap.size, 0, none⟩) (Nat.le_refl _) (.int .i64 p0)).setCell (p := ⟨w.heap.size, 1, none⟩) (Nat.le_refl _) (.int .i64 p1)).setCell (p := ⟨w.heap.size, 2, none⟩) (Nat.le_refl _) (.int .i64 p2))
  clear b3 HB3 T3 T2 HB2
  go_wp2_with fail
  obtain ⟨g0, g1, g2⟩ := HU.out
  exact bodyPost_ret (v := .tuple #[bxV p0 p1 p2, .bool true]) (by simp [results, Try.results22, go_sem, bxV, g0, g1, g2]) rfl ⟨rfl, HB6.out⟩

theorem layN_gen {k a b c B : Int} {L : List (Int × Int × Int)} {d : Nat} (h : okNode k a b c L.length d = true) (hB : 100 ≤ B) (hL : ∀ p ∈ L, boxIn B p) : boxIn (6 * B) (layN k a b c L) := by
  rcases okNode_cases h with ⟨rfl, _, ha, hb, hc⟩ | ⟨rfl, rfl, rfl, hd, hk⟩
  · rw [layN_one]; exact ⟨by simp only; omega, by simp only; omega, by simp only; omega⟩
  · rcases hk with ⟨rfl, hn⟩ | ⟨rfl, hn⟩ | ⟨rfl, hn⟩ | ⟨rfl, hn⟩ | ⟨rfl, hn⟩
    · obtain ⟨x, y, z⟩ := bx_in (by omega) L hL
      rw [layN_row]
      have hm : B * (L.length : Int) ≤ B * 6 := Int.mul_le_mul_of_nonneg_left (by omega) (by omega)
      exact ⟨by simp only; omega, by simp only; omega, by simp only; omega⟩
    · obtain ⟨x, y, rfl⟩ := len_two hn
      obtain ⟨x1, x2, x3⟩ := hL x (by simp)
      obtain ⟨y1, y2, y3⟩ := hL y (by simp)
      rw [layN_frac]; exact ⟨by simp only; omega, by simp only; omega, by simp only; omega⟩
    · obtain ⟨x, y, rfl⟩ := len_two hn
      obtain ⟨x1, x2, x3⟩ := hL x (by simp)
      obtain ⟨y1, y2, y3⟩ := hL y (by simp)
      rw [layN_above]; exact ⟨by simp only; omega, by simp only; omega, by simp only; omega⟩
    · obtain ⟨x, y, rfl⟩ := len_two hn
      obtain ⟨x1, x2, x3⟩ := hL x (by simp)
      obtain ⟨y1, y2, y3⟩ := hL y (by simp)
      rw [layN_below]; exact ⟨by simp only; omega, by simp only; omega, by simp only; omega⟩
    · obtain ⟨x, rfl⟩ := len_one hn
      obtain ⟨x1, x2, x3⟩ := hL x (by simp)
      rw [layN_root]; exact ⟨by simp only; omega, by simp only; omega, by simp only; omega⟩
/-- What a valid row of two equal formulas tells. -/
theorem pair_facts {k a b c : Int} {g : FL} (h : okFm 2 0 0 0 (cons k a b c g (cons k a b c g FL.nil)) 6 = true) (hA : AnyS g) :
    okFm k a b c g 6 = true ∧ boxIn 672 (layFm k a b c g) := by
  unfold okFm at h
  rw [Bool.and_eq_true] at h
  have h1 := allV_kid (n := 0) h.2 rfl
  have h2 : okFm k a b c g 6 = true := by
    unfold okFm at h1 ⊢
    rw [Bool.and_eq_true] at h1 ⊢
    exact ⟨okNode_mono h1.1 6 (by omega), allV_mono g _ _ (by omega) h1.2⟩
  refine ⟨h2, ?_⟩
  unfold okFm at h2
  rw [Bool.and_eq_true] at h2
  have := layN_gen (B := 112) (d := 6) (by rw [layL_len]; exact h2.1) (by omega) hA.kids
  exact this
theorem Kids.pair {w : World} {u : Value} {g : FL} {k a b c : Int} {blk : Nat} (h : Kids AllS w u g) (hb : blk < w.heap.size)
    (hc : ∀ j, j < 10 → w.cell? ⟨blk, j, none⟩ = [.int .i64 k, .int .i64 a, .int .i64 b, .int .i64 c, u, .int .i64 k, .int .i64 a, .int .i64 b, .int .i64 c, u][j]?) :
    Kids AllS w (.slice (some ⟨blk, 0, none⟩) 2 2) (cons k a b c g (cons k a b c g FL.nil)) := by
  obtain ⟨C, h1, h2⟩ := h
  refine ⟨[.int .i64 k, .int .i64 a, .int .i64 b, .int .i64 c, u, .int .i64 k, .int .i64 a, .int .i64 b, .int .i64 c, u], ⟨some ⟨blk, 0, none⟩, 2, rfl, by simp [FL.len], by unfold maxLen; omega, .inr ⟨blk, 0, rfl, trivial, hb, fun j hj => ?_⟩⟩, ?_⟩
  · rw [Nat.zero_add]; exact hc j (by simp [FL.len] at hj; omega)
  · exact ⟨u, C, _, rfl, h1, h2, u, C, [], rfl, h1, h2, rfl⟩
end Go.Proofs.Ytdloeiaaokhniaa
