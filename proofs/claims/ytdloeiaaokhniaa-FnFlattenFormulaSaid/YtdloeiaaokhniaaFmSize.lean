/- The number of formulas of a formula. -/
import Derived.Test.YtdloeiaaokhniaaFmExact
namespace Go.Proofs.Ytdloeiaaokhniaa
open Go.RowKit
open FL
set_option maxHeartbeats 1000000
set_option maxRecDepth 100000
set_option linter.unusedVariables false

def SiOk (g : FL) : Prop := ∀ (k a b c : Int) (v : Value) (w : World), Kids AllS w v g → g.sz ≤ 1048576 →
  Calls Try.prog 37 #[fmV k a b c v] w fun e w' => e = .returned (.int .i64 ((1 + g.sz : Nat) : Int)) ∧ Below w.heap.size w w'
theorem size_any (g : FL) (IH : ∀ g' : FL, g'.sz < g.sz → SiOk g') : SiOk g := by
  intro k a b c v w h hsz
  obtain ⟨ad, cap, rfl, hlc, hm, hcell⟩ := h.cells
  have HCe := Lib.hid hcell
  have HI := Lib.hid IH
  clear h hcell IH
  unfold maxLen at hm
  have HA : Hid (Below w.heap.size w (w.alloc (.cells #[.int .i64 k, .int .i64 a, .int .i64 b, .int .i64 c, .slice ad g.len cap] 32))) := Lib.hid ((Below.refl _ _).alloc (Nat.le_refl _) _)
  have HN : Hid (FL.drop g.len g = FL.nil) := Lib.hid (FL.drop_end g)
  have HAt := Lib.hid (fun j (h : j < g.len) => FL.drop_at j g h)
  unfold fmV
  generalize hg : g.len = n at *
  have HL := Lib.hid hg
  clear hg
  go_enter Try.func37, Try.ntmps37
  go_wp2_with fail
  generalize w.alloc (.cells #[.int .i64 k, .int .i64 a, .int .i64 b, .int .i64 c, .slice ad n cap] 32) = W at *
  go_loopw [3, 5, 9] (fun s _ i wr => ∃ (j m : Nat), j ≤ n ∧ i = .int .i64 j ∧ s = .int .i64 m ∧ m ≤ 1048577 ∧ Hid (m + (FL.drop j g).sz = 1 + g.sz) ∧ Hid (Below w.heap.size w wr)) (fun _ _ i _ => n - (intOf i).toNat)
  case atStart => exact ⟨0, 1, by omega, rfl, rfl, by omega, Lib.hid rfl, HA⟩
  case round =>
    obtain ⟨j, m, hj, rfl, rfl, hmm, HM, HB⟩ := hrel
    by_cases hlt : j < n
    · obtain ⟨b', off, rfl, _, hb, hat⟩ := HCe.out (by omega)
      obtain ⟨k', x1, x2, x3, f, r, hd1, hd2⟩ := HAt.out j hlt
      obtain ⟨u, c0, c1, c2, c3, c4, hk⟩ := hat j k' x1 x2 x3 f r hd1
      rw [← (bcell HB.out).1 _ _ hb] at c0 c1 c2 c3 c4
      have HS := Lib.hid (fun (w' : World) (hb' : Below w.heap.size w w') => HI.out f (sz_kid hd1) k' x1 x2 x3 u w' (hk.below hb') (by have := sz_kid hd1; omega))
      obtain ⟨ad', cap', rfl, _⟩ := hk.cells
      have HB7 := Lib.hid (HB.out.alloc HB.out.size (.cells #[.int .i64 k', .int .i64 x1, .int .i64 x2, .int .i64 x3, .slice ad' f.len cap'] 32))
      have hM := HM.out
      rw [hd1, FL.sz] at hM
      have hM2 : Hid (m + (1 + f.sz) + (FL.drop (j + 1) g).sz = 1 + g.sz) := Lib.hid (by rw [hd2]; omega)
      have hle : m + (1 + f.sz) ≤ 1048577 := by omega
      have hs : IntKind.i64.wrap ((m : Int) + ((1 + f.sz : Nat) : Int)) = ((m + (1 + f.sz) : Nat) : Int) := by rw [← Int.natCast_add]; exact IntWalk.i64_in _ (by omega)
      clear hat hk hd1 hd2 hM HM
      unfold fmV at HS
      go_wp2_with fail
      refine (HS.out _ HB7.out).mono ?_
      rintro e w3 ⟨rfl, b3⟩
      have HB3 := Lib.hid (HB7.out.trans (b3.mono HB7.out.size))
      clear b3 HB HB7 HS c0 c1 c2 c3 c4
      generalize 1 + f.sz = q at *
      go_wp2_with fail
      go_roundw
      case rel => exact ⟨j + 1, m + q, by omega, by first | rfl | go_num, by first | rfl | go_num, hle, hM2, HB3⟩
      case measure => simp [intOf]; omega
    · obtain rfl : j = n := by omega
      have hM := HM.out
      rw [HN.out, FL.sz] at hM
      have hM : 1 + g.sz = m := by omega
      clear HM
      go_wp2_with fail
      go_ret
      exact ⟨by rw [hM]; rfl, HB.out⟩
theorem siOk_all : ∀ (n : Nat) (g : FL), g.sz < n → SiOk g := by
  intro n
  induction n with
  | zero => intro g h; omega
  | succ n ih => intro g h; exact size_any g (fun g' h' => ih g' (by omega))

def SsOk (g : FL) : Prop := ∀ (k a b c : Int) (v : Value) (w : World), Kids AllS w v g → g.sz ≤ 1048576 →
  Calls Try.prog 38 #[fmV k a b c v] w fun e w' => e = .returned (.int .i64 ((1 + g.sz : Nat) : Int)) ∧ Below w.heap.size w w'
theorem ssize_any (g : FL) (IH : ∀ g' : FL, g'.sz < g.sz → SsOk g') : SsOk g := by
  intro k a b c v w h hsz
  obtain ⟨ad, cap, rfl, hlc, hm, hcell⟩ := h.cells
  have HCe := Lib.hid hcell
  have HI := Lib.hid IH
  clear h hcell IH
  unfold maxLen at hm
  have HA : Hid (Below w.heap.size w (w.alloc (.cells #[.int .i64 k, .int .i64 a, .int .i64 b, .int .i64 c, .slice ad g.len cap] 32))) := Lib.hid ((Below.refl _ _).alloc (Nat.le_refl _) _)
  have F0 := Lib.hid (Five.new 32 w (.int .i64 k) (.int .i64 a) (.int .i64 b) (.int .i64 c) (.slice ad g.len cap))
  have HN : Hid (FL.drop g.len g = FL.nil) := Lib.hid (FL.drop_end g)
  have HAt := Lib.hid (fun j (h : j < g.len) => FL.drop_at j g h)
  unfold fmV
  generalize hg : g.len = n at *
  have HL := Lib.hid hg
  clear hg
  go_enter Try.func38, Try.ntmps38
  go_wp2_with fail
  generalize w.alloc (.cells #[.int .i64 k, .int .i64 a, .int .i64 b, .int .i64 c, .slice ad n cap] 32) = W at *
  go_loopw [3, 4] (fun s i wr => ∃ (j m : Nat), j ≤ n ∧ i = .int .i64 j ∧ s = .int .i64 m ∧ m ≤ 1048577 ∧ Hid (m + (FL.drop j g).sz = 1 + g.sz) ∧ Hid (Below w.heap.size w wr) ∧ Hid (Five 32 wr w.heap.size (.int .i64 k) (.int .i64 a) (.int .i64 b) (.int .i64 c) (.slice ad n cap))) (fun _ i _ => n - (intOf i).toNat)
  case atStart => exact ⟨0, 1, by omega, rfl, rfl, by omega, Lib.hid rfl, HA, F0⟩
  case round =>
    clear F0
    obtain ⟨j, m, hj, rfl, rfl, hmm, HM, HB, HF⟩ := hrel
    obtain ⟨_, _, _, _, s4⟩ := HF.out.cells
    by_cases hlt : j < n
    · obtain ⟨b', off, rfl, _, hb, hat⟩ := HCe.out (by omega)
      obtain ⟨k', x1, x2, x3, f, r, hd1, hd2⟩ := HAt.out j hlt
      obtain ⟨u, c0, c1, c2, c3, c4, hk⟩ := hat j k' x1 x2 x3 f r hd1
      rw [← (bcell HB.out).1 _ _ hb] at c0 c1 c2 c3 c4
      have HS := Lib.hid (fun (w' : World) (hb' : Below w.heap.size w w') => HI.out f (sz_kid hd1) k' x1 x2 x3 u w' (hk.below hb') (by have := sz_kid hd1; omega))
      obtain ⟨ad', cap', rfl, _⟩ := hk.cells
      have hM := HM.out
      rw [hd1, FL.sz] at hM
      have hM2 : Hid (m + (1 + f.sz) + (FL.drop (j + 1) g).sz = 1 + g.sz) := Lib.hid (by rw [hd2]; omega)
      have hle : m + (1 + f.sz) ≤ 1048577 := by omega
      clear hat hk hd1 hd2 hM HM
      unfold fmV at HS
      go_wp2_with fail
      refine (HS.out _ HB.out).mono ?_
      rintro e w3 ⟨rfl, b3⟩
      have HB3 := Lib.hid (HB.out.trans (b3.mono HB.out.size))
      have HF3 := Lib.hid (HF.out.below b3)
      clear b3 HB HF HS c0 c1 c2 c3 c4 s4
      generalize 1 + f.sz = q at *
      have hs : IntKind.i64.wrap ((m : Int) + (q : Int)) = ((m + q : Nat) : Int) := by rw [← Int.natCast_add]; exact IntWalk.i64_in _ (by omega)
      go_wp2_with fail
      go_roundw
      case rel => exact ⟨j + 1, m + q, by omega, by first | rfl | go_num, by first | rfl | go_num, hle, hM2, HB3, HF3⟩
      case measure => simp [intOf]; omega
    · obtain rfl : j = n := by omega
      have hM := HM.out
      rw [HN.out, FL.sz] at hM
      have hM : 1 + g.sz = m := by omega
      clear HM
      go_wp2_with fail
      go_ret
      exact ⟨by rw [hM]; rfl, HB.out⟩
theorem ssOk_all : ∀ (n : Nat) (g : FL), g.sz < n → SsOk g := by
  intro n
  induction n with
  | zero => intro g h; omega
  | succ n ih => intro g h; exact ssize_any g (fun g' h' => ih g' (by omega))

def sizeS (k a b c : Int) (g : FL) : Nat := if okFm k a b c g 6 then 1 + g.sz else 0
theorem formulaSize_any (g : FL) (k a b c : Int) (v : Value) (w : World) (h : Kids AllS w v g) (hsz : g.sz ≤ 1048576) :
    Calls Try.prog 17 #[fmV k a b c v] w fun e w' => e = .returned (.int .i64 (sizeS k a b c g)) ∧ Below w.heap.size w w' := by
  obtain ⟨ad, cap, rfl, -⟩ := h.cells
  have HA : Hid (Below w.heap.size w (w.alloc (.cells #[.int .i64 k, .int .i64 a, .int .i64 b, .int .i64 c, .slice ad g.len cap] 32))) := Lib.hid ((Below.refl _ _).alloc (Nat.le_refl _) _)
  have F0 := Lib.hid (Five.new 32 w (.int .i64 k) (.int .i64 a) (.int .i64 b) (.int .i64 c) (.slice ad g.len cap))
  have HK := Lib.hid (h.below HA.out)
  clear h
  unfold fmV
  go_enter Try.func17, Try.ntmps17
  go_wp2_with fail
  refine (validFm_any g k a b c _ _ HK.out).mono ?_
  rintro e w1 ⟨he, b1⟩
  have HB := Lib.hid (HA.out.trans (b1.mono HA.out.size))
  obtain ⟨s0, s1, s2, s3, s4⟩ := (F0.out.below b1).cells
  have HK1 := Lib.hid (HK.out.below b1)
  clear b1 HA F0 HK
  cases hq : okFm k a b c g 6 with
  | false =>
    have HE : Hid (sizeS k a b c g = 0) := Lib.hid (by unfold sizeS; rw [hq]; rfl)
    rw [hq] at he
    subst he
    clear hq
    go_wp2_with fail
    go_ret
    exact ⟨by rw [HE.out]; rfl, HB.out⟩
  | true =>
    have HE : Hid (sizeS k a b c g = 1 + g.sz) := Lib.hid (by unfold sizeS; rw [hq]; rfl)
    rw [hq] at he
    subst he
    clear hq
    go_wp2_with fail
    refine (siOk_all _ g (Nat.lt_succ_self _) k a b c _ _ HK1.out hsz).mono ?_
    rintro e w2 ⟨rfl, b2⟩
    go_wp2_with fail
    go_ret
    exact ⟨by rw [HE.out]; rfl, HB.out.trans (b2.mono HB.out.size)⟩
theorem sformulaSize_any (g : FL) (k a b c : Int) (v : Value) (w : World) (h : Kids AllS w v g) (hsz : g.sz ≤ 1048576) :
    Calls Try.prog 18 #[fmV k a b c v] w fun e w' => e = .returned (.int .i64 (sizeS k a b c g)) ∧ Below w.heap.size w w' := by
  obtain ⟨ad, cap, rfl, -⟩ := h.cells
  have HA : Hid (Below w.heap.size w (w.alloc (.cells #[.int .i64 k, .int .i64 a, .int .i64 b, .int .i64 c, .slice ad g.len cap] 32))) := Lib.hid ((Below.refl _ _).alloc (Nat.le_refl _) _)
  have F0 := Lib.hid (Five.new 32 w (.int .i64 k) (.int .i64 a) (.int .i64 b) (.int .i64 c) (.slice ad g.len cap))
  have HK := Lib.hid (h.below HA.out)
  clear h
  unfold fmV
  go_enter Try.func18, Try.ntmps18
  go_wp2_with fail
  refine (svalidFm_any g k a b c _ _ HK.out).mono ?_
  rintro e w1 ⟨he, b1⟩
  have HB := Lib.hid (HA.out.trans (b1.mono HA.out.size))
  obtain ⟨s0, s1, s2, s3, s4⟩ := (F0.out.below b1).cells
  have HK1 := Lib.hid (HK.out.below b1)
  clear b1 HA F0 HK
  cases hq : okFm k a b c g 6 with
  | false =>
    have HE : Hid (sizeS k a b c g = 0) := Lib.hid (by unfold sizeS; rw [hq]; rfl)
    rw [hq] at he
    subst he
    clear hq
    go_wp2_with fail
    go_ret
    exact ⟨by rw [HE.out]; rfl, HB.out⟩
  | true =>
    have HE : Hid (sizeS k a b c g = 1 + g.sz) := Lib.hid (by unfold sizeS; rw [hq]; rfl)
    rw [hq] at he
    subst he
    clear hq
    go_wp2_with fail
    refine (ssOk_all _ g (Nat.lt_succ_self _) k a b c _ _ HK1.out hsz).mono ?_
    rintro e w2 ⟨rfl, b2⟩
    go_wp2_with fail
    go_ret
    exact ⟨by rw [HE.out]; rfl, HB.out.trans (b2.mono HB.out.size)⟩
end Go.Proofs.Ytdloeiaaokhniaa
