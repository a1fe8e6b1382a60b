/- The law of FormulaSize. -/
import Derived.Test.YtdloeiaaokhniaaFmAny
import Derived.Test.YtdloeiaaokhniaaFmSize
namespace Go.Proofs.Ytdloeiaaokhniaa
open Go.RowKit
open FL
set_option maxHeartbeats 2000000
set_option maxRecDepth 100000
set_option linter.unusedVariables false

theorem cell_ltA {w : World} {a : Addr} {v : Value} (h : w.cell? a = some v) : a.block < w.heap.size := by
  by_cases hb : a.block < w.heap.size
  · exact hb
  · have : w.heap[a.block]? = none := by simp; omega
    simp [World.cell?, this] at h
def DrewL (w : World) (e : Ending) (w' : World) : Prop := ∃ (k a b c : Int) (u : Value) (g : FL), e = .returned (fmV k a b c u) ∧ OwnFm w.heap.size w'.heap.size w' u g ∧ AnyS g ∧ Below w.heap.size w w'
theorem drawFormulaSize_any (a : Option Addr) (len cap : Nat) (zs : List Int) (w : World) (h : RowIn .u8 w a len cap zs) :
    Calls Try.prog 16 #[.slice a len cap] w (DrewL w) := by
  have hb0 : Below w.heap.size w (w.alloc (.cells #[.int .i64 0, .int .i64 0, .int .i64 0, .int .i64 0, .slice none 0 0] 32)) := (Below.refl _ _).alloc (Nat.le_refl _) _
  have F0 := Lib.hid (Five.new 32 w (.int .i64 0) (.int .i64 0) (.int .i64 0) (.int .i64 0) (.slice none 0 0))
  have HR : Hid (RowIn .u8 (w.alloc (.cells #[.int .i64 0, .int .i64 0, .int .i64 0, .int .i64 0, .slice none 0 0] 32)) a len cap zs) := Lib.hid (by
    rcases h with h | ⟨x, e, h1, h2, h3, hc, hw⟩
    · exact .inl h
    · refine .inr ⟨x, e, h1, h2, h3, fun i hi => ?_, hw⟩
      have hlt : (x.add i).block < w.heap.size := by
        exact cell_ltA (hc i hi)
      rw [hb0.cell hlt]
      exact hc i hi)
  have HB0 := Lib.hid hb0
  clear h hb0
  go_enter Try.func16, Try.ntmps16
  go_wp2_with fail
  generalize w.alloc (.cells #[.int .i64 0, .int .i64 0, .int .i64 0, .int .i64 0, .slice none 0 0] 32) = W at *
  refine (newReader_any a len cap zs W HR.out).mono ?_
  rintro e w1 ⟨rfl, hR, hb⟩
  have hlt : W.heap.size < w1.heap.size := hR.lies
  have hwW : w.heap.size < W.heap.size := F0.out.lt
  have F1 := Lib.hid (F0.out.below hb)
  have HB1 := Lib.hid (HB0.out.trans (hb.mono HB0.out.size))
  clear hb F0 HB0
  go_wp2_with fail
  refine (anyFormula_any W.heap.size 0 w1 (by omega) hR).mono ?_
  rintro e w2 ⟨k, a, b, c, u, g, rfl, ou, han, -, k2⟩
  obtain ⟨au, cu, rfl, _⟩ := ou.shape
  have F2 := F1.out.keeps k2 (by omega)
  obtain ⟨t0, t1, t2, t3, t4⟩ := F2.cells
  obtain ⟨y0, y1, y2, y3, y4⟩ := F2.free
  have HU := Lib.hid (F2.set5 (.int .i64 k) (.int .i64 a) (.int .i64 b) (.int .i64 c) (.slice au g.len cu)).cells
  have HB2 := Lib.hid (set5_below (HB1.out.trans (k2.below.mono (Nat.le_of_lt hwW))) w.heap.size (Nat.le_refl _) (.int .i64 k) (.int .i64 a) (.int .i64 b) (.int .i64 c) (.slice au g.len cu))
  have HO2 := Lib.hid ((ou.set5 (b := w.heap.size) (by omega) (.int .i64 k) (.int .i64 a) (.int .i64 b) (.int .i64 c) (.slice au g.len cu)).mono (lo' := w.heap.size) (by omega) (Nat.le_of_eq (set5_size ..).symm) (Nat.le_refl _))
  have HAn := Lib.hid han
  clear ou k2 F1 F2 HB1 hR han
  unfold fmV
  go_wp2_with fail
  unfold set5 at HU
  obtain ⟨g0, g1, g2, g3, g4⟩ := HU.out
  exact bodyPost_ret (v := .agg #[.int .i64 k, .int .i64 a, .int .i64 b, .int .i64 c, .slice au g.len cu]) (by simp [results, Try.results16, go_sem, g0, g1, g2, g3, g4]) rfl
    ⟨k, a, b, c, _, g, rfl, HO2.out, HAn.out, HB2.out⟩

theorem okFm_kid {k a b c : Int} {g : FL} (h : okFm k a b c g 6 = true) {j : Nat} {k' x y z : Int} {f r : FL} (e : FL.drop j g = cons k' x y z f r) : okFm k' x y z f 6 = true := by
  unfold okFm at h
  rw [Bool.and_eq_true] at h
  have h1 := allV_kid h.2 e
  unfold okFm at h1 ⊢
  rw [Bool.and_eq_true] at h1 ⊢
  exact ⟨okNode_mono h1.1 6 (by omega), allV_mono f _ _ (by omega) h1.2⟩

theorem formulaSize_walk (a : Option Addr) (len cap : Nat) (zs : List Int) (w : World) (h : RowIn .u8 w a len cap zs) :
    Calls Try.prog 4 #[.slice a len cap] w fun e w' => e = .returned (.bool true) ∧ Below w.heap.size w w' := by
  have hm := h.len_le.1
  unfold maxLen at hm
  have HR := Lib.hid h; clear h
  by_cases hl : 1048576 < len
  · go_enter Try.func4, Try.ntmps4
    go_wp2
    go_ret
    exact ⟨rfl, Below.refl _ _⟩
  · go_enter Try.func4, Try.ntmps4
    go_wp2_with fail
    refine (drawFormulaSize_any a len cap zs _ HR.out).mono ?_
    rintro e w1 ⟨k, a', b, c, u, g, rfl, ou, han, b1⟩
    obtain ⟨au, cu, rfl, _⟩ := ou.shape
    have ba : Below w1.heap.size w1 (w1.alloc (.cells #[.int .i64 k, .int .i64 a', .int .i64 b, .int .i64 c, .slice au g.len cu] 32)) := (Below.refl _ _).alloc (Nat.le_refl _) _
    have HB1 := Lib.hid (b1.trans (ba.mono b1.size))
    have F1 := Lib.hid (Five.new 32 w1 (.int .i64 k) (.int .i64 a') (.int .i64 b) (.int .i64 c) (.slice au g.len cu))
    have O1 := Lib.hid (ou.kids.below ba)
    have hsz : g.sz ≤ 1048576 := by have := han.size; omega
    have hln := han.len
    clear ou b1 ba han
    unfold fmV
    go_wp2_with fail
    generalize w1.alloc (.cells #[.int .i64 k, .int .i64 a', .int .i64 b, .int .i64 c, .slice au g.len cu] 32) = W1 at *
    refine (formulaSize_any g k a' b c _ W1 O1.out hsz).mono ?_
    rintro e w2 ⟨rfl, b2⟩
    have HB2 := Lib.hid (HB1.out.trans (b2.mono HB1.out.size))
    have F2 := Lib.hid (F1.out.below b2)
    have O2 := Lib.hid (O1.out.below b2)
    clear b2 HB1 F1 O1
    obtain ⟨s0, s1, s2, s3, s4⟩ := F2.out.cells
    go_wp2_with fail
    refine (sformulaSize_any g k a' b c _ w2 O2.out hsz).mono ?_
    rintro e w3 ⟨rfl, b3⟩
    have HB3 := Lib.hid (HB2.out.trans (b3.mono HB2.out.size))
    have F3 := Lib.hid (F2.out.below b3)
    have O3 := Lib.hid (O2.out.below b3)
    clear b3 HB2 F2 O2 s0 s1 s2 s3 s4
    obtain ⟨s0, s1, s2, s3, s4⟩ := F3.out.cells
    have HSp := Lib.hid (fun (w' : World) (h : Kids AllS w' (.slice au g.len cu) g) => sformulaSize_any g k a' b c _ w' h hsz)
    obtain ⟨S, hS⟩ : ∃ S, sizeS k a' b c g = S := ⟨_, rfl⟩
    rw [hS] at HSp ⊢
    unfold fmV at HSp
    have hne : ((S : Int) != (S : Int)) = false := by simp
    have heq : ((S : Int) == (S : Int)) = true := by simp
    go_wp2_with fail
    refine (validFm_any g k a' b c _ w3 O3.out).mono ?_
    rintro e w4 ⟨he, b4⟩
    have HB4 := Lib.hid (HB3.out.trans (b4.mono HB3.out.size))
    have F4 := Lib.hid (F3.out.below b4)
    have O4 := Lib.hid (O3.out.below b4)
    clear b4 HB3 F3 O3 s0 s1 s2 s3 s4
    obtain ⟨s0, s1, s2, s3, s4⟩ := F4.out.cells
    cases hq : okFm k a' b c g 6 with
    | false =>
      have hS0 : S = 0 := by rw [← hS]; unfold sizeS; rw [hq]; rfl
      rw [hq] at he
      subst he hS0
      clear hq hS
      go_wp2_with fail
      refine (HSp.out w4 O4.out).mono ?_
      rintro e w5 ⟨rfl, b5⟩
      go_wp2_with fail
      go_ret
      exact ⟨rfl, HB4.out.trans (b5.mono HB4.out.size)⟩
    | true =>
      have hS1 : S = 1 + g.sz := by rw [← hS]; unfold sizeS; rw [hq]; rfl
      rw [hq] at he
      subst he
      have HKid := Lib.hid (fun j k' x y z f r (e : FL.drop j g = cons k' x y z f r) => okFm_kid hq e)
      have HN : Hid (FL.drop g.len g = FL.nil) := Lib.hid (FL.drop_end g)
      have HAt := Lib.hid (fun j (h : j < g.len) => FL.drop_at j g h)
      have HCe : Hid (0 < g.len → ∃ b' off, au = some ⟨b', off, none⟩ ∧ AllS b' ∧ b' < w4.heap.size ∧ ∀ i k x y z f r, FL.drop i g = cons k x y z f r → ∃ u, w4.cell? ⟨b', off + i * 5, none⟩ = some (.int .i64 k) ∧ w4.cell? ⟨b', off + i * 5 + 1, none⟩ = some (.int .i64 x) ∧ w4.cell? ⟨b', off + i * 5 + 2, none⟩ = some (.int .i64 y) ∧ w4.cell? ⟨b', off + i * 5 + 3, none⟩ = some (.int .i64 z) ∧ w4.cell? ⟨b', off + i * 5 + 4, none⟩ = some u ∧ Kids AllS w4 u f) := Lib.hid (by
        obtain ⟨a2, c2, e, _, _, h⟩ := O4.out.cells
        injection e with e1 e2 e3
        subst e1
        exact h)
      have HS1 := Lib.hid hS1
      clear hq hS hS1 hne heq s0 s1 s2 s3
      have HF0 : Hid (Five 32 w4 w1.heap.size (.int .i64 k) (.int .i64 a') (.int .i64 b) (.int .i64 c) (.slice au g.len cu)) := F4
      have HB0 : Hid (Below w4.heap.size w4 w4) := Lib.hid (Below.refl _ _)
      generalize hg : g.len = n at *
      go_wp2_with fail
      go_loopw [5, 6] (fun s i wr => ∃ (j m : Nat), j ≤ n ∧ i = .int .i64 j ∧ s = .int .i64 m ∧ m ≤ 1048577 ∧ Hid (m + (FL.drop j g).sz = 1 + g.sz) ∧ Hid (Below w4.heap.size w4 wr) ∧ Hid (Five 32 wr w1.heap.size (.int .i64 k) (.int .i64 a') (.int .i64 b) (.int .i64 c) (.slice au n cu))) (fun _ i _ => n - (intOf i).toNat)
      case atStart => exact ⟨0, 1, by omega, rfl, rfl, by omega, Lib.hid rfl, HB0, HF0⟩
      case round =>
        clear HF0 HB0 s4
        obtain ⟨j, m, hj, rfl, rfl, hmm, HM, HB, HF⟩ := hrel
        obtain ⟨s0, s1, s2, s3, s4⟩ := HF.out.cells
        by_cases hlt : j < n
        · obtain ⟨b', off, rfl, _, hb, hat⟩ := HCe.out (by omega)
          obtain ⟨k', x1, x2, x3, f, r, hd1, hd2⟩ := HAt.out j hlt
          obtain ⟨u, c0, c1, c2, c3, c4, hkk⟩ := hat j k' x1 x2 x3 f r hd1
          rw [← (bcell HB.out).1 _ _ hb] at c0 c1 c2 c3 c4
          have hfz := sz_kid hd1
          have HS := Lib.hid (fun (w' : World) (hb' : Below w4.heap.size w4 w') => formulaSize_any f k' x1 x2 x3 u w' (hkk.below hb') (by omega))
          have hks : Hid (sizeS k' x1 x2 x3 f = 1 + f.sz) := Lib.hid (by unfold sizeS; rw [HKid.out j k' x1 x2 x3 f r hd1]; rfl)
          obtain ⟨ad', cap', rfl, _⟩ := hkk.cells
          have hM := HM.out
          rw [hd1, FL.sz] at hM
          have hM2 : Hid (m + (1 + f.sz) + (FL.drop (j + 1) g).sz = 1 + g.sz) := Lib.hid (by rw [hd2]; omega)
          have hle : m + (1 + f.sz) ≤ 1048577 := by omega
          clear hat hkk hd1 hd2 hM HM hfz
          unfold fmV at HS
          go_wp2_with fail
          refine (HS.out _ HB.out).mono ?_
          rintro e w5 ⟨rfl, b5⟩
          rw [hks.out]
          have HB5 := Lib.hid (HB.out.trans (b5.mono HB.out.size))
          have HF5 := Lib.hid (HF.out.below b5)
          clear b5 HB HF HS c0 c1 c2 c3 c4 s0 s1 s2 s3 s4 hks
          generalize 1 + f.sz = q at *
          have hs : IntKind.i64.wrap ((m : Int) + (q : Int)) = ((m + q : Nat) : Int) := by rw [← Int.natCast_add]; exact IntWalk.i64_in _ (by omega)
          go_wp2_with fail
          go_roundw
          case rel => exact ⟨j + 1, m + q, by omega, by first | rfl | go_num, by first | rfl | go_num, hle, hM2, HB5, HF5⟩
          case measure => simp [intOf]; omega
        · obtain rfl : j = n := by omega
          have hM := HM.out
          rw [HN.out, FL.sz] at hM
          have hSm : S = m := by have := HS1.out; omega
          subst hSm
          have heq : ((S : Int) == (S : Int)) = true := by simp
          go_wp2_with fail
          go_ret
          exact ⟨rfl, HB4.out.trans (HB.out.mono HB4.out.size)⟩
end Go.Proofs.Ytdloeiaaokhniaa
