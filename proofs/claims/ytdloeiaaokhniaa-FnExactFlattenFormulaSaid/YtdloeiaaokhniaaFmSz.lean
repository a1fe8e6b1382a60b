/- Sizes of formulas that came in. -/
import Derived.Test.YtdloeiaaokhniaaFmMem
namespace Go.Proofs.Ytdloeiaaokhniaa
open Go.RowKit
open FL
set_option maxHeartbeats 1000000
set_option maxRecDepth 100000
set_option linter.unusedVariables false

def szZ (left : Int) (g : FL) : Int := if (g.sz : Int) ≤ left then left - g.sz else -1
def SzOk (g : FL) : Prop := ∀ (v : Value) (w : World) (left : Int), Kids AllS w v g → 0 ≤ left → left ≤ 1048576 →
  Calls Try.prog 29 #[v, .int .i64 left] w fun e w' => e = .returned (.int .i64 (szZ left g)) ∧ Below w.heap.size w w'
theorem szZ_range (left : Int) (g : FL) (h0 : 0 ≤ left) : -1 ≤ szZ left g ∧ szZ left g ≤ left := by
  unfold szZ; split <;> omega

theorem sz_step {g : FL} (IH : SzOk g) (k a b c left : Int) (v : Value) (w : World) (h : Kids AllS w v g) (h0 : 0 ≤ left) (h1 : left ≤ 1048576) :
    Calls Try.prog 11 #[fmV k a b c v, .int .i64 left] w fun e w' => e = .returned (.int .i64 (szZ left g)) ∧ Below w.heap.size w w' := by
  have hb : Below w.heap.size w (w.alloc (.cells #[.int .i64 k, .int .i64 a, .int .i64 b, .int .i64 c, v] 26)) := (Below.refl _ _).alloc (Nat.le_refl _) _
  have HK := Lib.hid (h.below hb)
  have HI := Lib.hid IH
  obtain ⟨r0, r1⟩ := szZ_range left g h0
  obtain ⟨ad, cap, rfl, _⟩ := h.cells
  clear h IH
  unfold fmV
  go_enter Try.func11, Try.ntmps11
  go_wp2_with fail
  refine (HI.out _ _ left HK.out h0 h1).mono ?_
  rintro e w2 ⟨he, b2⟩
  have B2 := Lib.hid (hb.trans (b2.mono hb.size))
  obtain ⟨z, hz0⟩ : ∃ z, szZ left g = z := ⟨_, rfl⟩
  have HZ := Lib.hid hz0
  rw [hz0] at he r0 r1
  subst he
  clear b2 HK HI hb hz0
  by_cases hz : z < 0
  · obtain rfl : z = -1 := by omega
    go_wp2_with fail
    go_ret
    exact ⟨by rw [HZ.out]; rfl, B2.out⟩
  · have hd : decide (z < 0) = false := decide_eq_false hz
    go_wp2_with fail
    go_ret
    exact ⟨by rw [HZ.out]; rfl, B2.out⟩

theorem sz_any (g : FL) (IH : ∀ g' : FL, g'.sz < g.sz → SzOk g') : SzOk g := by
  intro v w left h h0 h1
  obtain ⟨ad, cap, rfl, hc, hm, hcell⟩ := h.cells
  have HCe := Lib.hid hcell
  have HI := Lib.hid IH
  have hlz := len_le_sz g
  clear h hcell IH
  unfold maxLen at hm
  by_cases hneg : left < g.len
  · have e : szZ left g = -1 := by unfold szZ; rw [if_neg (by omega)]
    have hd : decide (left - (g.len : Int) < 0) = true := decide_eq_true (by omega)
    have hs : IntKind.i64.wrap (left - (g.len : Int)) = left - g.len := IntWalk.i64_in _ (by omega)
    go_enter Try.func29, Try.ntmps29
    go_wp2_with fail
    go_ret
    exact ⟨by rw [e]; rfl, Below.refl _ _⟩
  · have hd : decide (left - (g.len : Int) < 0) = false := decide_eq_false (by omega)
    have hs : IntKind.i64.wrap (left - (g.len : Int)) = left - g.len := IntWalk.i64_in _ (by omega)
    have HD : Hid (FL.drop 0 g = g) := Lib.hid rfl
    have HZ : Hid (∀ l : Int, szZ left g = if (g.sz : Int) ≤ left then left - g.sz else -1) := Lib.hid (fun _ => rfl)
    go_enter Try.func29, Try.ntmps29
    go_wp2_with fail
    go_loopw [1, 5] (fun l i wr => ∃ (j : Nat) (y : Int), j ≤ g.len ∧ i = .int .i64 j ∧ l = .int .i64 y ∧ 0 ≤ y ∧ y ≤ 1048576 ∧ Hid (y + g.sz + ((FL.drop j g).len : Int) = left + ((FL.drop j g).sz : Int)) ∧ Hid (Below w.heap.size w wr)) (fun _ i _ => g.len - (intOf i).toNat)
    case atStart => exact ⟨0, left - g.len, by omega, rfl, rfl, by omega, by omega, Lib.hid (by rw [HD.out]; omega), Lib.hid (Below.refl _ _)⟩
    case round =>
      obtain ⟨j, y, hj, rfl, rfl, y0, y1, HE, HB⟩ := hrel
      by_cases hlt : j < g.len
      · obtain ⟨b, off, rfl, _, hb, hat⟩ := HCe.out (by omega)
        obtain ⟨k, x1, x2, x3, f, r, hd1, hd2⟩ := FL.drop_at j g hlt
        obtain ⟨u, c0, c1, c2, c3, c4, hk⟩ := hat j k x1 x2 x3 f r hd1
        rw [← (bcell HB.out).1 _ _ hb] at c0 c1 c2 c3 c4
        have HS := Lib.hid (sz_step (HI.out f (sz_kid hd1)) k x1 x2 x3 y u wr (hk.below HB.out) y0 y1)
        obtain ⟨ad, cap', rfl, _⟩ := hk.cells
        have hE := HE.out
        rw [hd1] at hE
        obtain ⟨r0, r1⟩ := szZ_range y f y0
        have HN : Hid (szZ y f = -1 → szZ left g = -1) := Lib.hid (fun h => by
          unfold szZ at h ⊢
          rw [FL.len, FL.sz] at hE
          split at h
          · omega
          · have := len_le_sz r
            rw [if_neg (by omega)])
        have HP : Hid (0 ≤ szZ y f → szZ y f + g.sz + ((FL.drop (j + 1) g).len : Int) = left + ((FL.drop (j + 1) g).sz : Int)) := Lib.hid (fun h => by
          rw [hd2]
          rw [FL.len, FL.sz] at hE
          unfold szZ at h ⊢
          split at h
          · rw [if_pos (by assumption)]; omega
          · omega)
        clear hat hk hd1 hd2 HE hE
        unfold fmV at HS
        go_wp2_with fail
        refine HS.out.mono ?_
        rintro e w2 ⟨he, b2⟩
        have B2 := Lib.hid (HB.out.trans (b2.mono HB.out.size))
        obtain ⟨z, hz0⟩ : ∃ z, szZ y f = z := ⟨_, rfl⟩
        rw [hz0] at he r0 r1 HN HP
        subst he
        clear b2 HB HS c0 c1 c2 c3 c4 hz0
        by_cases hz : z < 0
        · obtain rfl : z = -1 := by omega
          have hN := HN.out rfl
          go_wp2_with fail
          go_ret
          exact ⟨by rw [hN]; rfl, B2.out⟩
        · have hd : decide (z < 0) = false := decide_eq_false hz
          have HP := Lib.hid (HP.out (by omega))
          go_wp2_with fail
          go_roundw
          case rel => exact ⟨j + 1, z, by omega, by first | rfl | go_num, rfl, by omega, by omega, HP, B2⟩
          case measure => simp [intOf]; omega
      · obtain rfl : j = g.len := by omega
        have hE := HE.out
        rw [FL.drop_end, FL.len, FL.sz] at hE
        have hz : szZ left g = y := by unfold szZ; rw [if_pos (by omega)]; omega
        go_wp2_with fail
        go_ret
        exact ⟨by rw [hz]; rfl, HB.out⟩
theorem szOk_all : ∀ (n : Nat) (g : FL), g.sz < n → SzOk g := by
  intro n
  induction n with
  | zero => intro g h; omega
  | succ n ih => intro g h; exact sz_any g (fun g' h' => ih g' (by omega))
theorem szFm_any {g : FL} (k a b c left : Int) (v : Value) (w : World) (h : Kids AllS w v g) (h0 : 0 ≤ left) (h1 : left ≤ 1048576) :
    Calls Try.prog 11 #[fmV k a b c v, .int .i64 left] w fun e w' => e = .returned (.int .i64 (szZ left g)) ∧ Below w.heap.size w w' :=
  sz_step (szOk_all _ g (Nat.lt_succ_self _)) k a b c left v w h h0 h1
end Go.Proofs.Ytdloeiaaokhniaa
