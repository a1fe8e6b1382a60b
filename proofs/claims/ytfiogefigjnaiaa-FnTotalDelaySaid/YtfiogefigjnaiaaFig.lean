/- Figures in memory: the tests of figures and spaces. -/
import Derived.Test.YtfiogefigjnaiaaFigPlain
import Derived.Test.YtfiogefigjnaiaaStructs
import Derived.Test.YtfiogefigjnaiaaRange
namespace Go.Proofs.Ytfiogefigjnaiaa
open Go.RowKit
set_option maxHeartbeats 1000000
set_option maxRecDepth 100000

def figC : List (Int × Int) → List Value
  | [] => []
  | p :: r => .int .i64 p.1 :: .int .i64 p.2 :: figC r
theorem figC_len : ∀ F, (figC F).length = F.length * 2
  | [] => rfl
  | p :: r => by simp [figC, figC_len r]; omega
theorem figC_at : ∀ (F : List (Int × Int)) (i : Nat), i < F.length → (figC F)[i * 2]? = some (.int .i64 (fh F i)) ∧ (figC F)[i * 2 + 1]? = some (.int .i64 (fp F i))
  | [], i, h => by simp at h
  | p :: r, 0, _ => ⟨rfl, rfl⟩
  | p :: r, i + 1, h => by
    have := figC_at r i (by simpa using h)
    rw [show (i + 1) * 2 = i * 2 + 1 + 1 by omega]
    simp only [figC, List.getElem?_cons_succ]
    exact this
def SlF (w : World) (v : Value) (F : List (Int × Int)) : Prop := SlC 2 w v F.length (figC F)
theorem SlF.below {w w' : World} {v : Value} {F : List (Int × Int)} (h : SlF w v F) (hb : Below w.heap.size w w') : SlF w' v F := SlC.below h hb
theorem SlF.cells {w : World} {a : Option Addr} {n cap : Nat} {F : List (Int × Int)} (h : SlF w (.slice a n cap) F) (hl : 0 < n) : n = F.length ∧ ∃ b off, a = some ⟨b, off, none⟩ ∧ b < w.heap.size ∧ ∀ i, i < n → w.cell? ⟨b, off + i * 2, none⟩ = some (.int .i64 (fh F i)) ∧ w.cell? ⟨b, off + i * 2 + 1, none⟩ = some (.int .i64 (fp F i)) := by
  have hn : n = F.length := by obtain ⟨_, _, e, _⟩ := h; injection e
  subst hn
  obtain ⟨b, off, e, hb, hc⟩ := SlC.cells h hl
  refine ⟨rfl, b, off, e, hb, fun i hi => ?_⟩
  have := figC_at F i hi
  refine ⟨(hc _ (by omega)).trans this.1, ?_⟩
  rw [Nat.add_assoc]
  exact (hc _ (by omega)).trans this.2

def lastP (F : List (Int × Int)) (k : Nat) : Int := if k = 0 then 0 else fp F (k - 1)
theorem okF1_last (F : List (Int × Int)) (k : Nat) (h0 : 0 ≤ lastP F k) : okF1 F k = (decide (1 ≤ fh F k ∧ fh F k ≤ 1000) && decide (lastP F k ≤ fp F k ∧ fp F k ≤ 11)) := by
  rw [Bool.eq_iff_iff, okF1_iff, Bool.and_eq_true, decide_eq_true_eq, decide_eq_true_eq]
  unfold lastP at h0 ⊢
  by_cases h : k = 0
  · subst h
    simp only [if_true]
    constructor
    · rintro ⟨a, b, c⟩; exact ⟨a, b⟩
    · rintro ⟨a, b⟩; exact ⟨a, b, fun h => by omega⟩
  · rw [if_neg h] at h0 ⊢
    constructor
    · rintro ⟨a, b, c⟩; exact ⟨a, c (by omega), b.2⟩
    · rintro ⟨a, b⟩; exact ⟨a, ⟨by omega, b.2⟩, fun _ => b.1⟩
theorem lastP_succ (F : List (Int × Int)) (k : Nat) : lastP F (k + 1) = fp F k := rfl

theorem validFigures_any (v : Value) (F : List (Int × Int)) (w : World) (h : SlF w v F) :
    Calls Try.prog 31 #[v] w fun e w' => e = .returned (.bool (okF F)) ∧ Below w.heap.size w w' := by
  have HW := Lib.hid h
  obtain ⟨a, cap, rfl, h1, h2, _⟩ := h
  unfold maxLen at h2
  have HBad : Hid (∀ k, k < F.length → okF1 F k = false → okF F = false) := Lib.hid (fun k hk hx => okF_bad k hk hx)
  have HLong : Hid (10 < F.length → okF F = false) := okF_long
  have HGood : Hid (F.length ≤ 10 → (∀ k, k < F.length → okF1 F k = true) → okF F = true) := okF_of
  have HC : Hid (∀ k, k < F.length → ∃ b off, a = some ⟨b, off, none⟩ ∧ b < w.heap.size ∧ ∀ i, i < F.length → w.cell? ⟨b, off + i * 2, none⟩ = some (.int .i64 (fh F i)) ∧ w.cell? ⟨b, off + i * 2 + 1, none⟩ = some (.int .i64 (fp F i))) := fun k hk => (HW.out.cells (by omega)).2
  clear HW
  generalize hn : F.length = n at *
  clear hn
  go_enter Try.func31, Try.ntmps31
  go_wp2_with fail
  have HSt := Lib.hid (lastP_succ F)
  have HOne := Lib.hid (okF1_last F)
  go_loopw [3, 8] (fun l i wr => ∃ (k : Nat) (p0 : Int), k ≤ n ∧ i = .int .i64 k ∧ l = .int .i64 p0 ∧ 0 ≤ p0 ∧ p0 ≤ 11 ∧ Hid (lastP F k = p0) ∧ Hid (Below w.heap.size w wr) ∧ Hid (∀ j, j < k → okF1 F j = true)) (fun _ i _ => n - (intOf i).toNat)
  case atStart => exact ⟨0, 0, by omega, rfl, rfl, by omega, by omega, rfl, Below.refl _ _, fun j hj => by omega⟩
  case round =>
    obtain ⟨k, p0, hk, rfl, rfl, q0, q1, HL, HB, HP⟩ := hrel
    by_cases hlt : k < n
    · obtain ⟨b, off, rfl, hb, hc⟩ := HC.out k hlt
      have c0 := (HB.out.cell (p := ⟨b, off + k * 2, none⟩) hb).trans (hc k hlt).1
      have c1 := (HB.out.cell (p := ⟨b, off + k * 2 + 1, none⟩) hb).trans (hc k hlt).2
      have hbw : b < wr.heap.size := Nat.lt_of_lt_of_le hb HB.out.size
      have HO := Lib.hid (HOne.out k (by rw [HL.out]; exact q0))
      rw [HL.out] at HO
      have HS := Lib.hid (HSt.out k)
      have HB1 := Lib.hid (HBad.out k hlt)
      have HP1 : Hid (okF1 F k = true → ∀ j, j < k + 1 → okF1 F j = true) := by
        intro hx j hj
        by_cases hjk : j = k
        · subst hjk; exact hx
        · exact HP.out j (by omega)
      clear hc HP HL
      generalize okF1 F k = ok at *
      generalize fh F k = x at *
      generalize fp F k = y at *
      by_cases hx : 1 ≤ x ∧ x ≤ 1000
      · have hd1 : decide (1 ≤ x ∧ x ≤ 1000) = true := by simpa using hx
        by_cases hy : p0 ≤ y ∧ y ≤ 11
        · have hd2 : decide (p0 ≤ y ∧ y ≤ 11) = true := by simpa using hy
          have HP2 := Lib.hid (HP1.out (by rw [HO.out, hd1, hd2]; rfl))
          clear HP1 HB1 HO hx hy
          go_wp2_with (go_at_call 37; refine (within_any _ _ _ _).mono ?_; rintro e w' ⟨rfl, rfl⟩)
          go_roundw
          case rel => exact ⟨k + 1, y, by omega, by go_num, rfl, by simp at hd2; omega, by simp at hd2; omega, HS, HB.out.alloc HB.out.size _, HP2⟩
          case measure => simp [intOf]; omega
        · have hd2 : decide (p0 ≤ y ∧ y ≤ 11) = false := by simpa using hy
          have HF := Lib.hid (HB1.out (by rw [HO.out, hd1, hd2]; rfl))
          clear HP1 HB1 HO hx hy HS
          go_wp2_with (go_at_call 37; refine (within_any _ _ _ _).mono ?_; rintro e w' ⟨rfl, rfl⟩)
          go_ret
          rw [HF.out]
          exact ⟨rfl, HB.out.alloc HB.out.size _⟩
      · have hd1 : decide (1 ≤ x ∧ x ≤ 1000) = false := by simpa using hx
        have HF := Lib.hid (HB1.out (by rw [HO.out, hd1]; rfl))
        clear HP1 HB1 HO hx HS
        go_wp2_with (go_at_call 37; refine (within_any _ _ _ _).mono ?_; rintro e w' ⟨rfl, rfl⟩)
        go_ret
        rw [HF.out]
        exact ⟨rfl, HB.out.alloc HB.out.size _⟩
    · obtain rfl : k = n := by omega
      by_cases hl : 10 < k
      · have HF := Lib.hid (HLong.out hl)
        have hd : decide (k ≤ 10) = false := by simp; omega
        go_wp2_with fail
        go_ret
        rw [HF.out]
        exact ⟨by simp; omega, HB.out⟩
      · have HF := Lib.hid (HGood.out (by omega) HP.out)
        have hd : decide (k ≤ 10) = true := by simp; omega
        go_wp2_with fail
        go_ret
        rw [HF.out]
        exact ⟨by simp; omega, HB.out⟩

theorem validSpaces_any (v : Value) (L : List Int) (w : World) (h : SlI w v L) :
    Calls Try.prog 32 #[v] w fun e w' => e = .returned (.bool (okS L)) ∧ w = w' := by
  have HW := Lib.hid h
  obtain ⟨a, cap, rfl, h1, h2, _⟩ := h
  unfold maxLen at h2
  have HBad := Lib.hid (fun k hk hx => okS_bad (L := L) k hk hx)
  have HLong : Hid (12 < L.length → okS L = false) := okS_long
  have HGood : Hid (L.length ≤ 12 → (∀ k, k < L.length → 0 ≤ L.getD k 0 ∧ L.getD k 0 ≤ 10000) → okS L = true) := okS_of
  have HC : Hid (∀ k, k < L.length → ∃ b off, a = some ⟨b, off, none⟩ ∧ b < w.heap.size ∧ ∀ j, j < L.length → w.cell? ⟨b, off + j, none⟩ = some (.int .i64 (L.getD j 0))) := fun k hk => HW.out.cells (by omega)
  clear HW
  generalize hn : L.length = n at *
  clear hn
  go_enter Try.func32, Try.ntmps32
  go_wp2_with fail
  go_loop [7] (fun i => ∃ k : Nat, k ≤ n ∧ i = .int .i64 k ∧ Hid (∀ j, j < k → 0 ≤ L.getD j 0 ∧ L.getD j 0 ≤ 10000)) (fun i => n - (intOf i).toNat)
  case atStart => exact ⟨0, by omega, rfl, fun j hj => by omega⟩
  case round =>
    obtain ⟨k, hk, rfl, HP⟩ := hrel
    by_cases hlt : k < n
    · obtain ⟨b, off, rfl, hb, hc⟩ := HC.out k hlt
      have c0 := hc k hlt
      have HB1 := Lib.hid (HBad.out k hlt)
      have HP1 : Hid (0 ≤ L.getD k 0 ∧ L.getD k 0 ≤ 10000 → ∀ j, j < k + 1 → 0 ≤ L.getD j 0 ∧ L.getD j 0 ≤ 10000) := by
        intro hx j hj
        by_cases hjk : j = k
        · subst hjk; exact hx
        · exact HP.out j (by omega)
      clear hc HP
      generalize L.getD k 0 = x at *
      by_cases hx : 0 ≤ x ∧ x ≤ 10000
      · have hd : decide (0 ≤ x ∧ x ≤ 10000) = true := by simpa using hx
        have HP2 := Lib.hid (HP1.out hx)
        clear HP1 hx
        go_wp2_with (go_at_call 37; refine (within_any _ _ _ _).mono ?_; rintro e w' ⟨rfl, rfl⟩)
        go_round
        case rel => exact ⟨k + 1, by omega, by go_num, HP2⟩
        case measure => simp [intOf]; omega
      · have hd : decide (0 ≤ x ∧ x ≤ 10000) = false := by simpa using hx
        have HF := Lib.hid (HB1.out hx)
        clear hx HP1 HB1
        go_wp2_with (go_at_call 37; refine (within_any _ _ _ _).mono ?_; rintro e w' ⟨rfl, rfl⟩)
        go_ret
        rw [HF.out]
        exact ⟨rfl, rfl⟩
    · obtain rfl : k = n := by omega
      by_cases hl : 12 < k
      · have HF := Lib.hid (HLong.out hl)
        have hd : decide (k ≤ 12) = false := by simp; omega
        go_wp2_with fail
        go_ret
        rw [HF.out]
        exact ⟨by simp; omega, rfl⟩
      · have HF := Lib.hid (HGood.out (by omega) HP.out)
        have hd : decide (k ≤ 12) = true := by simp; omega
        go_wp2_with fail
        go_ret
        rw [HF.out]
        exact ⟨by simp; omega, rfl⟩

theorem svalidSpace_any (v : Value) (L : List Int) (w : World) (h : SlI w v L) :
    Calls Try.prog 30 #[v] w fun e w' => e = .returned (.bool (okS L)) ∧ w = w' := by
  have HW := Lib.hid h
  obtain ⟨a, cap, rfl, h1, h2, _⟩ := h
  unfold maxLen at h2
  have HBad := Lib.hid (fun k hk hx => okS_bad (L := L) k hk hx)
  have HLong : Hid (12 < L.length → okS L = false) := okS_long
  have HGood : Hid (L.length ≤ 12 → (∀ k, k < L.length → 0 ≤ L.getD k 0 ∧ L.getD k 0 ≤ 10000) → okS L = true) := okS_of
  have HC : Hid (∀ k, k < L.length → ∃ b off, a = some ⟨b, off, none⟩ ∧ b < w.heap.size ∧ ∀ j, j < L.length → w.cell? ⟨b, off + j, none⟩ = some (.int .i64 (L.getD j 0))) := fun k hk => HW.out.cells (by omega)
  clear HW
  generalize hn : L.length = n at *
  clear hn
  go_enter Try.func30, Try.ntmps30
  go_wp2_with fail
  go_loop [3] (fun i => ∃ k : Nat, k ≤ n ∧ i = .int .i64 k ∧ Hid (∀ j, j < k → 0 ≤ L.getD j 0 ∧ L.getD j 0 ≤ 10000)) (fun i => n - (intOf i).toNat)
  case atStart => exact ⟨0, by omega, rfl, fun j hj => by omega⟩
  case round =>
    obtain ⟨k, hk, rfl, HP⟩ := hrel
    by_cases hlt : k < n
    · obtain ⟨b, off, rfl, hb, hc⟩ := HC.out k hlt
      have c0 := hc k hlt
      have HB1 := Lib.hid (HBad.out k hlt)
      have HP1 : Hid (0 ≤ L.getD k 0 ∧ L.getD k 0 ≤ 10000 → ∀ j, j < k + 1 → 0 ≤ L.getD j 0 ∧ L.getD j 0 ≤ 10000) := by
        intro hx j hj
        by_cases hjk : j = k
        · subst hjk; exact hx
        · exact HP.out j (by omega)
      clear hc HP
      generalize L.getD k 0 = x at *
      by_cases hx : 0 ≤ x ∧ x ≤ 10000
      · have hd : decide (0 ≤ x ∧ x ≤ 10000) = true := by simpa using hx
        have HP2 := Lib.hid (HP1.out hx)
        clear HP1 hx
        go_wp2_with (go_at_call 39; refine (inRange_any _ _ _ _).mono ?_; rintro e w' ⟨rfl, rfl⟩)
        go_round
        case rel => exact ⟨k + 1, by omega, by go_num, HP2⟩
        case measure => simp [intOf]; omega
      · have hd : decide (0 ≤ x ∧ x ≤ 10000) = false := by simpa using hx
        have HF := Lib.hid (HB1.out hx)
        clear hx HP1 HB1
        go_wp2_with (go_at_call 39; refine (inRange_any _ _ _ _).mono ?_; rintro e w' ⟨rfl, rfl⟩)
        go_ret
        rw [HF.out]
        exact ⟨rfl, rfl⟩
    · obtain rfl : k = n := by omega
      by_cases hl : 12 < k
      · have HF := Lib.hid (HLong.out hl)
        go_wp2_with fail
        go_ret
        rw [HF.out]
        exact ⟨by simp; omega, rfl⟩
      · have HF := Lib.hid (HGood.out (by omega) HP.out)
        go_wp2_with fail
        go_ret
        rw [HF.out]
        exact ⟨by simp; omega, rfl⟩

theorem quiet_inRange (n a b : Int) (w : World) (m : Nat) : Calls Try.prog 39 #[.int .i64 n, .int .i64 a, .int .i64 b] (w.drewN m) fun e w'' => e = .returned (.bool (decide (a ≤ n ∧ n ≤ b))) ∧ ∃ q, w'' = w.drewN q :=
  (inRange_any n a b _).mono fun _ _ ⟨he, hw⟩ => ⟨he, m, hw.symm⟩
theorem drew_on {w wr : World} (h : ∃ q, wr = w.drewN q) (n : Nat) : ∃ q, wr.drewN n = w.drewN q := by
  obtain ⟨q, rfl⟩ := h
  exact ⟨_, World.drewN_drewN ..⟩
theorem svalidFloats_any (v : Value) (F : List (Int × Int)) (w : World) (h : SlF w v F) :
    Calls Try.prog 29 #[v] w (Same w (okF F)) := by
  have HW := Lib.hid h
  obtain ⟨a, cap, rfl, h1, h2, _⟩ := h
  unfold maxLen at h2
  have HBad : Hid (∀ k, k < F.length → okF1 F k = false → okF F = false) := Lib.hid (fun k hk hx => okF_bad k hk hx)
  have HLong : Hid (10 < F.length → okF F = false) := okF_long
  have HGood : Hid (F.length ≤ 10 → (∀ k, k < F.length → okF1 F k = true) → okF F = true) := okF_of
  have HC : Hid (∀ k, k < F.length → ∃ b off, a = some ⟨b, off, none⟩ ∧ b < w.heap.size ∧ ∀ i, i < F.length → w.cell? ⟨b, off + i * 2, none⟩ = some (.int .i64 (fh F i)) ∧ w.cell? ⟨b, off + i * 2 + 1, none⟩ = some (.int .i64 (fp F i))) := fun k hk => (HW.out.cells (by omega)).2
  have HOne : Hid (∀ k, okF1 F k = (decide (1 ≤ fh F k ∧ fh F k ≤ 1000) && decide (0 ≤ fp F k ∧ fp F k ≤ 11) && (decide (k = 0) || decide (fp F (k - 1) ≤ fp F k)))) := fun k => rfl
  clear HW
  generalize hn : F.length = n at *
  clear hn
  go_enter Try.func29, Try.ntmps29
  go_wp2_with fail
  go_loopw [3] (fun i wr => ∃ (k : Nat), k ≤ n ∧ i = .int .i64 k ∧ Hid (∃ q, wr = w.drewN q) ∧ Hid (∀ j, j < k → okF1 F j = true)) (fun i _ => n - (intOf i).toNat)
  case atStart => exact ⟨0, by omega, rfl, ⟨0, rfl⟩, fun j hj => by omega⟩
  case round =>
    obtain ⟨k, hk, rfl, HD, HP⟩ := hrel
    by_cases hlt : k < n
    · obtain ⟨b, off, rfl, hb, hc⟩ := HC.out k hlt
      have hc : ∀ i, i < n → wr.cell? ⟨b, off + i * 2, none⟩ = some (.int .i64 (fh F i)) ∧ wr.cell? ⟨b, off + i * 2 + 1, none⟩ = some (.int .i64 (fp F i)) := by
        obtain ⟨q, hq⟩ := HD.out
        rw [hq]; exact hc
      have HCC := Lib.hid hc
      have c0 := (hc k hlt).1
      have c1 := (hc k hlt).2
      have HO := Lib.hid (HOne.out k)
      have HB1 := Lib.hid (HBad.out k hlt)
      have HP1 : Hid (okF1 F k = true → ∀ j, j < k + 1 → okF1 F j = true) := by
        intro hx j hj
        by_cases hjk : j = k
        · subst hjk; exact hx
        · exact HP.out j (by omega)
      clear hc HP
      generalize okF1 F k = ok at *
      generalize fh F k = x at *
      generalize hyy : fp F k = y at *
      have HY := Lib.hid hyy
      clear hyy
      by_cases hx : 1 ≤ x ∧ x ≤ 1000
      · have hd1 : decide (1 ≤ x ∧ x ≤ 1000) = true := by simpa using hx
        by_cases hy : 0 ≤ y ∧ y ≤ 11
        · have hd2 : decide (0 ≤ y ∧ y ≤ 11) = true := by simpa using hy
          by_cases hk0 : k = 0
          · subst hk0
            have HP2 := Lib.hid (HP1.out (by rw [HO.out, hd1, hd2]; rfl))
            have hd3 : decide ((0 : Int) < 0) = false := rfl
            rw [Nat.zero_mul, Nat.add_zero] at c0 c1
            clear HP1 HB1 HO hx hy HCC
            go_wp2_with fail
            go_quiet ((go_at_call 39; exact quiet_inRange _ _ _ _ _))
            go_wp2_with fail
            go_roundw
            case rel => exact ⟨0 + 1, by omega, by go_num, drew_on HD.out _, HP2⟩
            case measure => simp [intOf]; omega
          · have hd3 : decide (0 < k) = true := by simp; omega
            have c2 := (HCC.out (k - 1) (by omega)).2
            have hk2 : k - 1 < n := by omega
            have hk3 : IntKind.i64.wrap (((k - 1 : Nat) : Int)) = ((k - 1 : Nat) : Int) := IntWalk.i64_in _ (by omega)
            have hkc : (k : Int) - 1 = ((k - 1 : Nat) : Int) := by omega
            generalize fp F (k - 1) = z at *
            by_cases hz : z ≤ y
            · have hd4 : decide (y < z) = false := by simp; omega
              have HP2 := Lib.hid (HP1.out (by rw [HO.out, hd1, hd2, decide_eq_true hz]; simp))
              clear HP1 HB1 HO hx hy HCC
              go_wp2_with fail
              go_quiet ((go_at_call 39; exact quiet_inRange _ _ _ _ _))
              clear hkc hk3
              go_wp2_with fail
              go_roundw
              case rel => exact ⟨k + 1, by omega, by go_num, drew_on HD.out _, HP2⟩
              case measure => simp [intOf]; omega
            · have hd4 : decide (y < z) = true := by simp; omega
              have HF := Lib.hid (HB1.out (by rw [HO.out, hd1, hd2, decide_eq_false hz, decide_eq_false hk0]; rfl))
              clear HP1 HB1 HO hx hy HCC hz
              go_wp2_with fail
              go_quiet ((go_at_call 39; exact quiet_inRange _ _ _ _ _))
              clear hkc hk3
              go_wp2_with fail
              go_ret
              obtain ⟨q, hq⟩ := drew_on HD.out nq
              exact ⟨q, by rw [HF.out]; rfl, hq⟩
        · have hd2 : decide (0 ≤ y ∧ y ≤ 11) = false := by simpa using hy
          have HF := Lib.hid (HB1.out (by rw [HO.out, hd1, hd2]; rfl))
          clear HP1 HB1 HO hx hy HCC
          go_wp2_with fail
          go_quiet ((go_at_call 39; exact quiet_inRange _ _ _ _ _))
          go_wp2_with fail
          go_ret
          obtain ⟨q, hq⟩ := drew_on HD.out nq
          exact ⟨q, by rw [HF.out]; rfl, hq⟩
      · have hd1 : decide (1 ≤ x ∧ x ≤ 1000) = false := by simpa using hx
        have HF := Lib.hid (HB1.out (by rw [HO.out, hd1]; rfl))
        clear HP1 HB1 HO hx HCC
        go_wp2_with fail
        go_quiet ((go_at_call 39; exact quiet_inRange _ _ _ _ _))
        go_wp2_with fail
        go_ret
        obtain ⟨q, hq⟩ := drew_on HD.out nq
        exact ⟨q, by rw [HF.out]; rfl, hq⟩
    · obtain rfl : k = n := by omega
      by_cases hl : 10 < k
      · have HF := Lib.hid (HLong.out hl)
        go_wp2_with fail
        go_ret
        obtain ⟨q, hq⟩ := HD.out
        exact ⟨q, by rw [HF.out]; simp; omega, hq⟩
      · have HF := Lib.hid (HGood.out (by omega) HP.out)
        go_wp2_with fail
        go_ret
        obtain ⟨q, hq⟩ := HD.out
        exact ⟨q, by rw [HF.out]; simp; omega, hq⟩
end Go.Proofs.Ytfiogefigjnaiaa
