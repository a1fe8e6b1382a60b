/- FlattenFormula of both. -/
import Derived.Test.YtdloeiaaokhniaaFmFlatS
namespace Go.Proofs.Ytdloeiaaokhniaa
open Go.RowKit
open FL
set_option maxHeartbeats 2000000
set_option maxRecDepth 100000
set_option linter.unusedVariables false

def flOk (k a b c : Int) (g : FL) : Bool := okFm k a b c g 6 && okFm k a b c (flatM (decide (k = 2)) g) 6
def flI (ok : Bool) (x : Int) : Int := if ok then x else 0
def flG (ok : Bool) (k : Int) (g : FL) : FL := if ok then flatM (decide (k = 2)) g else FL.nil
theorem ownFm_nil {lo : Nat} {w : World} (h : lo ≤ w.heap.size) : OwnFm lo w.heap.size w (.slice none 0 0) FL.nil :=
  ⟨Nat.le_refl _, [], ⟨[], [], [], rfl, ⟨none, 0, rfl, Nat.le_refl _, Nat.zero_le _, .inl ⟨rfl, rfl⟩⟩, rfl, rfl⟩, List.nodup_nil, fun b hb => by simp at hb⟩
theorem flattenFm_any (g : FL) (k a b c : Int) (v : Value) (w : World) (h : Kids AllS w v g) (hsz : g.sz ≤ 1048576) :
    Calls Try.prog 24 #[fmV k a b c v] w fun e w' => ∃ u, e = .returned (.tuple #[fmV (flI (flOk k a b c g) k) (flI (flOk k a b c g) a) (flI (flOk k a b c g) b) (flI (flOk k a b c g) c) u, .bool (flOk k a b c g)]) ∧ OwnFm w.heap.size w'.heap.size w' u (flG (flOk k a b c g) k g) ∧ Below w.heap.size w w' := by
  obtain ⟨ad, cap, rfl, -⟩ := h.cells
  have HA : Hid (Below w.heap.size w ((w.alloc (.cells #[.int .i64 k, .int .i64 a, .int .i64 b, .int .i64 c, .slice ad g.len cap] 32)).alloc (.cells #[.int .i64 0, .int .i64 0, .int .i64 0, .int .i64 0, .slice none 0 0] 32))) := Lib.hid (((Below.refl _ _).alloc (Nat.le_refl _) _).alloc (by simp) _)
  have F0 := Lib.hid ((Five.new 32 w (.int .i64 k) (.int .i64 a) (.int .i64 b) (.int .i64 c) (.slice ad g.len cap)).alloc (.cells #[.int .i64 0, .int .i64 0, .int .i64 0, .int .i64 0, .slice none 0 0] 32))
  have T0 := Lib.hid (Five.new 32 (w.alloc (.cells #[.int .i64 k, .int .i64 a, .int .i64 b, .int .i64 c, .slice ad g.len cap] 32)) (.int .i64 0) (.int .i64 0) (.int .i64 0) (.int .i64 0) (.slice none 0 0))
  simp only [alloc_sz] at T0
  have HK := Lib.hid (h.below HA.out)
  have hfs := flatM_sz g (decide (k = 2))
  clear h
  unfold fmV
  go_enter Try.func24, Try.ntmps24
  go_wp2_with fail
  generalize (w.alloc (.cells #[.int .i64 k, .int .i64 a, .int .i64 b, .int .i64 c, .slice ad g.len cap] 32)).alloc (.cells #[.int .i64 0, .int .i64 0, .int .i64 0, .int .i64 0, .slice none 0 0] 32) = W at *
  refine (validFm_any g k a b c _ _ HK.out).mono ?_
  rintro e w1 ⟨he, b1⟩
  have HB := Lib.hid (HA.out.trans (b1.mono HA.out.size))
  have F1 := Lib.hid (F0.out.below b1)
  have T1 := Lib.hid (T0.out.below b1)
  have HK1 := Lib.hid (HK.out.below b1)
  clear b1 HA F0 HK T0
  cases hq : okFm k a b c g 6 with
  | false =>
    have HE : Hid (flOk k a b c g = false) := Lib.hid (by unfold flOk; rw [hq]; rfl)
    rw [hq] at he
    subst he
    clear hq
    obtain ⟨t0, t1, t2, t3, t4⟩ := T1.out.cells
    obtain ⟨y0, y1, y2, y3, y4⟩ := T1.out.free
    have HU := Lib.hid (((((T1.out.set0 (.int .i64 0)).set1 (.int .i64 0)).set2 (.int .i64 0)).set3 (.int .i64 0)).set4 (.slice none 0 0)).cells
    have HB6 := Lib.hid (((((HB.out.setCell (p := ⟨w.heap.size + 1, 0, none⟩) (by simp only; omega) (.int .i64 0)).setCell (p := ⟨w.heap.size + 1, 1, none⟩) (by simp only; omega) (.int .i64 0)).setCell (p := ⟨w.heap.size + 1, 2, none⟩) (by simp only; omega) (.int .i64 0)).setCell (p := ⟨w.heap.size + 1, 3, none⟩) (by simp only; omega) (.int .i64 0)).setCell (p := ⟨w.heap.size + 1, 4, none⟩) (by simp only; omega) (.slice none 0 0))
    go_wp2_with fail
    obtain ⟨g0, g1, g2, g3, g4⟩ := HU.out
    refine bodyPost_ret (v := .tuple #[.agg #[.int .i64 0, .int .i64 0, .int .i64 0, .int .i64 0, .slice none 0 0], .bool false]) (by simp [results, Try.results24, go_sem, g0, g1, g2, g3, g4]) rfl ⟨_, by rw [HE.out]; rfl, ?_, HB6.out⟩
    rw [HE.out]
    exact ownFm_nil HB6.out.size
  | true =>
    have HS := Lib.hid (faOk_all _ g (Nat.lt_succ_self _) k a b c _ _ HK1.out hsz)
    rw [hq] at he
    subst he
    obtain ⟨s0, s1, s2, s3, s4⟩ := F1.out.cells
    unfold fmV at HS
    have HQ := Lib.hid hq
    clear hq
    go_wp2_with fail
    refine HS.out.mono ?_
    rintro e w2 ⟨u, rfl, ou, -, b2⟩
    obtain ⟨au, cu, rfl, _⟩ := ou.shape
    have hsz1 : w.heap.size ≤ w1.heap.size := HB.out.size
    have hlt1 : w.heap.size + 1 < w1.heap.size := T1.out.lt
    have hflen : (flatM (decide (k = 2)) g).len ≤ 1048576 := by have := len_le_sz (flatM (decide (k = 2)) g); omega
    have ba : Below w2.heap.size w2 (w2.alloc (.cells #[.int .i64 k, .int .i64 a, .int .i64 b, .int .i64 c, .slice au (flatM (decide (k = 2)) g).len cu] 32)) := (Below.refl _ _).alloc (Nat.le_refl _) _
    have b3 := b2.trans (ba.mono b2.size)
    have HB3 := Lib.hid (HB.out.trans (b3.mono HB.out.size))
    have T3 := Lib.hid (T1.out.below b3)
    have X3 := Lib.hid (Five.new 32 w2 (.int .i64 k) (.int .i64 a) (.int .i64 b) (.int .i64 c) (.slice au (flatM (decide (k = 2)) g).len cu))
    have O3 := Lib.hid ((ou.below ba).mono (Nat.le_refl _) ba.size (Nat.le_refl _))
    have hn2 : Hid (w2.heap.size ≠ w.heap.size + 1) := Lib.hid (by have := b2.size; omega)
    clear b2 b3 ba ou HB F1 T1 HK1 HS s0 s1 s2 s3 s4
    go_wp2_with fail
    generalize w2.alloc (.cells #[.int .i64 k, .int .i64 a, .int .i64 b, .int .i64 c, .slice au (flatM (decide (k = 2)) g).len cu] 32) = W2 at *
    refine (validFm_any (flatM (decide (k = 2)) g) k a b c _ _ O3.out.kids).mono ?_
    rintro e w4 ⟨he, b4⟩
    have HB4 := Lib.hid (HB3.out.trans (b4.mono HB3.out.size))
    have T4 := Lib.hid (T3.out.below b4)
    have X4 := Lib.hid (X3.out.below b4)
    have O4 := Lib.hid ((O3.out.below b4).mono (Nat.le_refl _) b4.size (Nat.le_refl _))
    clear b4 HB3 T3 X3 O3
    obtain ⟨t0, t1, t2, t3, t4⟩ := T4.out.cells
    obtain ⟨y0, y1, y2, y3, y4⟩ := T4.out.free
    cases hq2 : okFm k a b c (flatM (decide (k = 2)) g) 6 with
    | false =>
      have HE : Hid (flOk k a b c g = false) := Lib.hid (by unfold flOk; rw [hq2, Bool.and_false])
      rw [hq2] at he
      subst he
      clear hq2 HQ
      have HU := Lib.hid (((((T4.out.set0 (.int .i64 0)).set1 (.int .i64 0)).set2 (.int .i64 0)).set3 (.int .i64 0)).set4 (.slice none 0 0)).cells
      have HB6 := Lib.hid (((((HB4.out.setCell (p := ⟨w.heap.size + 1, 0, none⟩) (by simp only; omega) (.int .i64 0)).setCell (p := ⟨w.heap.size + 1, 1, none⟩) (by simp only; omega) (.int .i64 0)).setCell (p := ⟨w.heap.size + 1, 2, none⟩) (by simp only; omega) (.int .i64 0)).setCell (p := ⟨w.heap.size + 1, 3, none⟩) (by simp only; omega) (.int .i64 0)).setCell (p := ⟨w.heap.size + 1, 4, none⟩) (by simp only; omega) (.slice none 0 0))
      go_wp2_with fail
      obtain ⟨g0, g1, g2, g3, g4⟩ := HU.out
      refine bodyPost_ret (v := .tuple #[.agg #[.int .i64 0, .int .i64 0, .int .i64 0, .int .i64 0, .slice none 0 0], .bool false]) (by simp [results, Try.results24, go_sem, g0, g1, g2, g3, g4]) rfl ⟨_, by rw [HE.out]; rfl, ?_, HB6.out⟩
      rw [HE.out]
      exact ownFm_nil HB6.out.size
    | true =>
      have HE : Hid (flOk k a b c g = true) := Lib.hid (by unfold flOk; rw [hq2, HQ.out]; rfl)
      rw [hq2] at he
      subst he
      clear hq2 HQ
      obtain ⟨x0, x1, x2, x3, x4⟩ := X4.out.cells
      have HU := Lib.hid (((((T4.out.set0 (.int .i64 k)).set1 (.int .i64 a)).set2 (.int .i64 b)).set3 (.int .i64 c)).set4 (.slice au (flatM (decide (k = 2)) g).len cu)).cells
      have HB6 := Lib.hid (((((HB4.out.setCell (p := ⟨w.heap.size + 1, 0, none⟩) (by simp only; omega) (.int .i64 k)).setCell (p := ⟨w.heap.size + 1, 1, none⟩) (by simp only; omega) (.int .i64 a)).setCell (p := ⟨w.heap.size + 1, 2, none⟩) (by simp only; omega) (.int .i64 b)).setCell (p := ⟨w.heap.size + 1, 3, none⟩) (by simp only; omega) (.int .i64 c)).setCell (p := ⟨w.heap.size + 1, 4, none⟩) (by simp only; omega) (.slice au (flatM (decide (k = 2)) g).len cu))
      have hZ : Hid ((((((w4.setCell ⟨w.heap.size + 1, 0, none⟩ (.int .i64 k)).setCell ⟨w.heap.size + 1, 1, none⟩ (.int .i64 a)).setCell ⟨w.heap.size + 1, 2, none⟩ (.int .i64 b)).setCell ⟨w.heap.size + 1, 3, none⟩ (.int .i64 c)).setCell ⟨w.heap.size + 1, 4, none⟩ (.slice au (flatM (decide (k = 2)) g).len cu)).heap.size = w4.heap.size) := Lib.hid (by simp [World.setCell])
      have O6 : Hid (OwnFm w1.heap.size (((((w4.setCell ⟨w.heap.size + 1, 0, none⟩ (.int .i64 k)).setCell ⟨w.heap.size + 1, 1, none⟩ (.int .i64 a)).setCell ⟨w.heap.size + 1, 2, none⟩ (.int .i64 b)).setCell ⟨w.heap.size + 1, 3, none⟩ (.int .i64 c)).setCell ⟨w.heap.size + 1, 4, none⟩ (.slice au (flatM (decide (k = 2)) g).len cu)).heap.size (((((w4.setCell ⟨w.heap.size + 1, 0, none⟩ (.int .i64 k)).setCell ⟨w.heap.size + 1, 1, none⟩ (.int .i64 a)).setCell ⟨w.heap.size + 1, 2, none⟩ (.int .i64 b)).setCell ⟨w.heap.size + 1, 3, none⟩ (.int .i64 c)).setCell ⟨w.heap.size + 1, 4, none⟩ (.slice au (flatM (decide (k = 2)) g).len cu)) (.slice au (flatM (decide (k = 2)) g).len cu) (flatM (decide (k = 2)) g)) := Lib.hid (by
        refine (O4.out.of_same (Nat.le_of_eq hZ.out.symm) (fun b' h1 _ => ?_)).mono (Nat.le_refl _) (Nat.le_of_eq hZ.out.symm) (Nat.le_refl _)
        rw [Below.heap_setCell _ _ _ _ (by simp only; omega), Below.heap_setCell _ _ _ _ (by simp only; omega), Below.heap_setCell _ _ _ _ (by simp only; omega), Below.heap_setCell _ _ _ _ (by simp only; omega), Below.heap_setCell _ _ _ _ (by simp only; omega)])
      clear O4 HB4 T4 X4
      go_wp2_with fail
      obtain ⟨g0, g1, g2, g3, g4⟩ := HU.out
      refine bodyPost_ret (v := .tuple #[.agg #[.int .i64 k, .int .i64 a, .int .i64 b, .int .i64 c, .slice au (flatM (decide (k = 2)) g).len cu], .bool true]) (by simp [results, Try.results24, go_sem, g0, g1, g2, g3, g4]) rfl ⟨_, by rw [HE.out]; rfl, ?_, HB6.out⟩
      rw [HE.out]
      exact O6.out.mono hsz1 (Nat.le_refl _) (Nat.le_refl _)
theorem sflattenFm_any (g : FL) (k a b c : Int) (v : Value) (w : World) (h : Kids AllS w v g) (hsz : g.sz ≤ 1048576) :
    Calls Try.prog 25 #[fmV k a b c v] w fun e w' => ∃ u, e = .returned (.tuple #[fmV (flI (flOk k a b c g) k) (flI (flOk k a b c g) a) (flI (flOk k a b c g) b) (flI (flOk k a b c g) c) u, .bool (flOk k a b c g)]) ∧ OwnFm w.heap.size w'.heap.size w' u (flG (flOk k a b c g) k g) ∧ Below w.heap.size w w' := by
  obtain ⟨ad, cap, rfl, -⟩ := h.cells
  have HA : Hid (Below w.heap.size w ((w.alloc (.cells #[.int .i64 k, .int .i64 a, .int .i64 b, .int .i64 c, .slice ad g.len cap] 32)).alloc (.cells #[.int .i64 0, .int .i64 0, .int .i64 0, .int .i64 0, .slice none 0 0] 32))) := Lib.hid (((Below.refl _ _).alloc (Nat.le_refl _) _).alloc (by simp) _)
  have F0 := Lib.hid ((Five.new 32 w (.int .i64 k) (.int .i64 a) (.int .i64 b) (.int .i64 c) (.slice ad g.len cap)).alloc (.cells #[.int .i64 0, .int .i64 0, .int .i64 0, .int .i64 0, .slice none 0 0] 32))
  have T0 := Lib.hid (Five.new 32 (w.alloc (.cells #[.int .i64 k, .int .i64 a, .int .i64 b, .int .i64 c, .slice ad g.len cap] 32)) (.int .i64 0) (.int .i64 0) (.int .i64 0) (.int .i64 0) (.slice none 0 0))
  simp only [alloc_sz] at T0
  have HK := Lib.hid (h.below HA.out)
  have hfs := flatM_sz g (decide (k = 2))
  clear h
  unfold fmV
  go_enter Try.func25, Try.ntmps25
  go_wp2_with fail
  generalize (w.alloc (.cells #[.int .i64 k, .int .i64 a, .int .i64 b, .int .i64 c, .slice ad g.len cap] 32)).alloc (.cells #[.int .i64 0, .int .i64 0, .int .i64 0, .int .i64 0, .slice none 0 0] 32) = W at *
  refine (svalidFm_any g k a b c _ _ HK.out).mono ?_
  rintro e w1 ⟨he, b1⟩
  have HB := Lib.hid (HA.out.trans (b1.mono HA.out.size))
  have F1 := Lib.hid (F0.out.below b1)
  have T1 := Lib.hid (T0.out.below b1)
  have HK1 := Lib.hid (HK.out.below b1)
  clear b1 HA F0 HK T0
  cases hq : okFm k a b c g 6 with
  | false =>
    have HE : Hid (flOk k a b c g = false) := Lib.hid (by unfold flOk; rw [hq]; rfl)
    rw [hq] at he
    subst he
    clear hq
    obtain ⟨t0, t1, t2, t3, t4⟩ := T1.out.cells
    obtain ⟨y0, y1, y2, y3, y4⟩ := T1.out.free
    have HU := Lib.hid (((((T1.out.set0 (.int .i64 0)).set1 (.int .i64 0)).set2 (.int .i64 0)).set3 (.int .i64 0)).set4 (.slice none 0 0)).cells
    have HB6 := Lib.hid (((((HB.out.setCell (p := ⟨w.heap.size + 1, 0, none⟩) (by simp only; omega) (.int .i64 0)).setCell (p := ⟨w.heap.size + 1, 1, none⟩) (by simp only; omega) (.int .i64 0)).setCell (p := ⟨w.heap.size + 1, 2, none⟩) (by simp only; omega) (.int .i64 0)).setCell (p := ⟨w.heap.size + 1, 3, none⟩) (by simp only; omega) (.int .i64 0)).setCell (p := ⟨w.heap.size + 1, 4, none⟩) (by simp only; omega) (.slice none 0 0))
    go_wp2_with fail
    obtain ⟨g0, g1, g2, g3, g4⟩ := HU.out
    refine bodyPost_ret (v := .tuple #[.agg #[.int .i64 0, .int .i64 0, .int .i64 0, .int .i64 0, .slice none 0 0], .bool false]) (by simp [results, Try.results25, go_sem, g0, g1, g2, g3, g4]) rfl ⟨_, by rw [HE.out]; rfl, ?_, HB6.out⟩
    rw [HE.out]
    exact ownFm_nil HB6.out.size
  | true =>
    have HS := Lib.hid (fsOk_all _ g (Nat.lt_succ_self _) k a b c _ _ HK1.out hsz)
    rw [hq] at he
    subst he
    obtain ⟨s0, s1, s2, s3, s4⟩ := F1.out.cells
    unfold fmV at HS
    have HQ := Lib.hid hq
    clear hq
    go_wp2_with fail
    refine HS.out.mono ?_
    rintro e w2 ⟨u, rfl, ou, -, b2⟩
    obtain ⟨au, cu, rfl, _⟩ := ou.shape
    have hsz1 : w.heap.size ≤ w1.heap.size := HB.out.size
    have hlt1 : w.heap.size + 1 < w1.heap.size := T1.out.lt
    have hflen : (flatM (decide (k = 2)) g).len ≤ 1048576 := by have := len_le_sz (flatM (decide (k = 2)) g); omega
    have ba : Below w2.heap.size w2 (w2.alloc (.cells #[.int .i64 k, .int .i64 a, .int .i64 b, .int .i64 c, .slice au (flatM (decide (k = 2)) g).len cu] 32)) := (Below.refl _ _).alloc (Nat.le_refl _) _
    have b3 := b2.trans (ba.mono b2.size)
    have HB3 := Lib.hid (HB.out.trans (b3.mono HB.out.size))
    have T3 := Lib.hid (T1.out.below b3)
    have X3 := Lib.hid (Five.new 32 w2 (.int .i64 k) (.int .i64 a) (.int .i64 b) (.int .i64 c) (.slice au (flatM (decide (k = 2)) g).len cu))
    have O3 := Lib.hid ((ou.below ba).mono (Nat.le_refl _) ba.size (Nat.le_refl _))
    have hn2 : Hid (w2.heap.size ≠ w.heap.size + 1) := Lib.hid (by have := b2.size; omega)
    clear b2 b3 ba ou HB F1 T1 HK1 HS s0 s1 s2 s3 s4
    go_wp2_with fail
    generalize w2.alloc (.cells #[.int .i64 k, .int .i64 a, .int .i64 b, .int .i64 c, .slice au (flatM (decide (k = 2)) g).len cu] 32) = W2 at *
    refine (svalidFm_any (flatM (decide (k = 2)) g) k a b c _ _ O3.out.kids).mono ?_
    rintro e w4 ⟨he, b4⟩
    have HB4 := Lib.hid (HB3.out.trans (b4.mono HB3.out.size))
    have T4 := Lib.hid (T3.out.below b4)
    have X4 := Lib.hid (X3.out.below b4)
    have O4 := Lib.hid ((O3.out.below b4).mono (Nat.le_refl _) b4.size (Nat.le_refl _))
    clear b4 HB3 T3 X3 O3
    obtain ⟨t0, t1, t2, t3, t4⟩ := T4.out.cells
    obtain ⟨y0, y1, y2, y3, y4⟩ := T4.out.free
    cases hq2 : okFm k a b c (flatM (decide (k = 2)) g) 6 with
    | false =>
      have HE : Hid (flOk k a b c g = false) := Lib.hid (by unfold flOk; rw [hq2, Bool.and_false])
      rw [hq2] at he
      subst he
      clear hq2 HQ
      have HU := Lib.hid (((((T4.out.set0 (.int .i64 0)).set1 (.int .i64 0)).set2 (.int .i64 0)).set3 (.int .i64 0)).set4 (.slice none 0 0)).cells
      have HB6 := Lib.hid (((((HB4.out.setCell (p := ⟨w.heap.size + 1, 0, none⟩) (by simp only; omega) (.int .i64 0)).setCell (p := ⟨w.heap.size + 1, 1, none⟩) (by simp only; omega) (.int .i64 0)).setCell (p := ⟨w.heap.size + 1, 2, none⟩) (by simp only; omega) (.int .i64 0)).setCell (p := ⟨w.heap.size + 1, 3, none⟩) (by simp only; omega) (.int .i64 0)).setCell (p := ⟨w.heap.size + 1, 4, none⟩) (by simp only; omega) (.slice none 0 0))
      go_wp2_with fail
      obtain ⟨g0, g1, g2, g3, g4⟩ := HU.out
      refine bodyPost_ret (v := .tuple #[.agg #[.int .i64 0, .int .i64 0, .int .i64 0, .int .i64 0, .slice none 0 0], .bool false]) (by simp [results, Try.results25, go_sem, g0, g1, g2, g3, g4]) rfl ⟨_, by rw [HE.out]; rfl, ?_, HB6.out⟩
      rw [HE.out]
      exact ownFm_nil HB6.out.size
    | true =>
      have HE : Hid (flOk k a b c g = true) := Lib.hid (by unfold flOk; rw [hq2, HQ.out]; rfl)
      rw [hq2] at he
      subst he
      clear hq2 HQ
      obtain ⟨x0, x1, x2, x3, x4⟩ := X4.out.cells
      have HU := Lib.hid (((((T4.out.set0 (.int .i64 k)).set1 (.int .i64 a)).set2 (.int .i64 b)).set3 (.int .i64 c)).set4 (.slice au (flatM (decide (k = 2)) g).len cu)).cells
      have HB6 := Lib.hid (((((HB4.out.setCell (p := ⟨w.heap.size + 1, 0, none⟩) (by simp only; omega) (.int .i64 k)).setCell (p := ⟨w.heap.size + 1, 1, none⟩) (by simp only; omega) (.int .i64 a)).setCell (p := ⟨w.heap.size + 1, 2, none⟩) (by simp only; omega) (.int .i64 b)).setCell (p := ⟨w.heap.size + 1, 3, none⟩) (by simp only; omega) (.int .i64 c)).setCell (p := ⟨w.heap.size + 1, 4, none⟩) (by simp only; omega) (.slice au (flatM (decide (k = 2)) g).len cu))
      have hZ : Hid ((((((w4.setCell ⟨w.heap.size + 1, 0, none⟩ (.int .i64 k)).setCell ⟨w.heap.size + 1, 1, none⟩ (.int .i64 a)).setCell ⟨w.heap.size + 1, 2, none⟩ (.int .i64 b)).setCell ⟨w.heap.size + 1, 3, none⟩ (.int .i64 c)).setCell ⟨w.heap.size + 1, 4, none⟩ (.slice au (flatM (decide (k = 2)) g).len cu)).heap.size = w4.heap.size) := Lib.hid (by simp [World.setCell])
      have O6 : Hid (OwnFm w1.heap.size (((((w4.setCell ⟨w.heap.size + 1, 0, none⟩ (.int .i64 k)).setCell ⟨w.heap.size + 1, 1, none⟩ (.int .i64 a)).setCell ⟨w.heap.size + 1, 2, none⟩ (.int .i64 b)).setCell ⟨w.heap.size + 1, 3, none⟩ (.int .i64 c)).setCell ⟨w.heap.size + 1, 4, none⟩ (.slice au (flatM (decide (k = 2)) g).len cu)).heap.size (((((w4.setCell ⟨w.heap.size + 1, 0, none⟩ (.int .i64 k)).setCell ⟨w.heap.size + 1, 1, none⟩ (.int .i64 a)).setCell ⟨w.heap.size + 1, 2, none⟩ (.int .i64 b)).setCell ⟨w.heap.size + 1, 3, none⟩ (.int .i64 c)).setCell ⟨w.heap.size + 1, 4, none⟩ (.slice au (flatM (decide (k = 2)) g).len cu)) (.slice au (flatM (decide (k = 2)) g).len cu) (flatM (decide (k = 2)) g)) := Lib.hid (by
        refine (O4.out.of_same (Nat.le_of_eq hZ.out.symm) (fun b' h1 _ => ?_)).mono (Nat.le_refl _) (Nat.le_of_eq hZ.out.symm) (Nat.le_refl _)
        rw [Below.heap_setCell _ _ _ _ (by simp only; omega), Below.heap_setCell _ _ _ _ (by simp only; omega), Below.heap_setCell _ _ _ _ (by simp only; omega), Below.heap_setCell _ _ _ _ (by simp only; omega), Below.heap_setCell _ _ _ _ (by simp only; omega)])
      clear O4 HB4 T4 X4
      go_wp2_with fail
      obtain ⟨g0, g1, g2, g3, g4⟩ := HU.out
      refine bodyPost_ret (v := .tuple #[.agg #[.int .i64 k, .int .i64 a, .int .i64 b, .int .i64 c, .slice au (flatM (decide (k = 2)) g).len cu], .bool true]) (by simp [results, Try.results25, go_sem, g0, g1, g2, g3, g4]) rfl ⟨_, by rw [HE.out]; rfl, ?_, HB6.out⟩
      rw [HE.out]
      exact O6.out.mono hsz1 (Nat.le_refl _) (Nat.le_refl _)
end Go.Proofs.Ytdloeiaaokhniaa
