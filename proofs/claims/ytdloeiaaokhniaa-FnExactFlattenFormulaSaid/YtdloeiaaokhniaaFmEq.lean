/- Formulas compared with themselves. -/
import Derived.Test.YtdloeiaaokhniaaFmTo
import Derived.StillTailTactics
namespace Go.Proofs.Ytdloeiaaokhniaa
open Go.RowKit
open FL
set_option maxHeartbeats 1000000
set_option maxRecDepth 100000

def sameBx (x y z x' y' z' : Int) : Bool := decide (x = x' ∧ y = y' ∧ z = z')
theorem sameBx_same (x y z : Int) : sameBx x y z x y z = true := decide_eq_true ⟨rfl, rfl, rfl⟩
theorem eqBox_any (x y z x' y' z' : Int) (w : World) :
    Calls Try.prog 26 #[.agg #[.int .i64 x, .int .i64 y, .int .i64 z], .agg #[.int .i64 x', .int .i64 y', .int .i64 z']] w fun e w' => e = .returned (.bool (sameBx x y z x' y' z')) ∧ Below w.heap.size w w' := by
  have hb : Below w.heap.size w ((w.alloc (.cells #[.int .i64 x, .int .i64 y, .int .i64 z] 29)).alloc (.cells #[.int .i64 x', .int .i64 y', .int .i64 z'] 29)) := ((Below.refl _ _).alloc (Nat.le_refl _) _).alloc (by simp) _
  have HB := Lib.hid hb
  clear hb
  by_cases h1 : x = x'
  · subst h1
    have e1 : (x != x) = false := by simp
    by_cases h2 : y = y'
    · subst h2
      have e2 : (y != y) = false := by simp
      by_cases h3 : z = z'
      · subst h3
        have e3 : (z != z) = false := by simp
        go_enter Try.func26, Try.ntmps26
        go_wp2_with fail
        go_ret
        exact ⟨by rw [sameBx_same]; rfl, HB.out⟩
      · have e3 : (z != z') = true := by simpa using h3
        have HF : Hid (sameBx x y z x y z' = false) := Lib.hid (decide_eq_false (fun h => h3 h.2.2))
        clear h3
        go_enter Try.func26, Try.ntmps26
        go_wp2_with fail
        go_ret
        exact ⟨by rw [HF.out]; rfl, HB.out⟩
    · have e2 : (y != y') = true := by simpa using h2
      have HF : Hid (sameBx x y z x y' z' = false) := Lib.hid (decide_eq_false (fun h => h2 h.2.1))
      clear h2
      go_enter Try.func26, Try.ntmps26
      go_wp2_with fail
      go_ret
      exact ⟨by rw [HF.out]; rfl, HB.out⟩
  · have e1 : (x != x') = true := by simpa using h1
    have HF : Hid (sameBx x y z x' y' z' = false) := Lib.hid (decide_eq_false (fun h => h1 h.1))
    clear h1
    go_enter Try.func26, Try.ntmps26
    go_wp2_with fail
    go_ret
    exact ⟨by rw [HF.out]; rfl, HB.out⟩
theorem eqBox_same (x y z : Int) (w : World) :
    Calls Try.prog 26 #[.agg #[.int .i64 x, .int .i64 y, .int .i64 z], .agg #[.int .i64 x, .int .i64 y, .int .i64 z]] w fun e w' => e = .returned (.bool true) ∧ Below w.heap.size w w' := by
  have h := eqBox_any x y z x y z w
  rw [sameBx_same] at h
  exact h

def EqOk (g : FL) : Prop := ∀ (u v : Value) (w : World), Kids AllS w u g → Kids AllS w v g →
  Calls Try.prog 34 #[u, v] w fun e w' => e = .returned (.bool true) ∧ Below w.heap.size w w'
theorem eq_step {g : FL} (IH : EqOk g) (k a b c : Int) (u v : Value) (w : World) (hu : Kids AllS w u g) (hv : Kids AllS w v g) :
    Calls Try.prog 15 #[fmV k a b c u, fmV k a b c v] w fun e w' => e = .returned (.bool true) ∧ Below w.heap.size w w' := by
  have HI := Lib.hid IH
  have HU := Lib.hid hu
  have HV := Lib.hid hv
  obtain ⟨au, cu, rfl, _⟩ := hu.cells
  obtain ⟨av, cv, rfl, _⟩ := hv.cells
  clear hu hv IH
  have HA : Hid (Below w.heap.size w ((w.alloc (.cells #[.int .i64 k, .int .i64 a, .int .i64 b, .int .i64 c, .slice au g.len cu] 32)).alloc (.cells #[.int .i64 k, .int .i64 a, .int .i64 b, .int .i64 c, .slice av g.len cv] 32))) := Lib.hid (((Below.refl _ _).alloc (Nat.le_refl _) _).alloc (by simp) _)
  have F0 := Lib.hid ((Five.new 32 w (.int .i64 k) (.int .i64 a) (.int .i64 b) (.int .i64 c) (.slice au g.len cu)).alloc (.cells #[.int .i64 k, .int .i64 a, .int .i64 b, .int .i64 c, .slice av g.len cv] 32))
  have F1 := Lib.hid (Five.new 32 (w.alloc (.cells #[.int .i64 k, .int .i64 a, .int .i64 b, .int .i64 c, .slice au g.len cu] 32)) (.int .i64 k) (.int .i64 a) (.int .i64 b) (.int .i64 c) (.slice av g.len cv))
  simp only [alloc_sz] at F1
  have e0 : (k != k) = false := by simp
  unfold fmV
  go_enter Try.func15, Try.ntmps15
  go_wp2_with fail
  generalize (w.alloc (.cells #[.int .i64 k, .int .i64 a, .int .i64 b, .int .i64 c, .slice au g.len cu] 32)).alloc (.cells #[.int .i64 k, .int .i64 a, .int .i64 b, .int .i64 c, .slice av g.len cv] 32) = W at *
  refine (eqBox_same a b c W).mono ?_
  rintro e w3 ⟨rfl, b3⟩
  have HA3 := Lib.hid (HA.out.trans (b3.mono HA.out.size))
  obtain ⟨_, _, _, _, p4⟩ := (F0.out.below b3).cells
  obtain ⟨_, _, _, _, q4⟩ := (F1.out.below b3).cells
  clear b3 HA F0 F1
  go_wp2_with fail
  refine (HI.out _ _ w3 (HU.out.below HA3.out) (HV.out.below HA3.out)).mono ?_
  rintro e w5 ⟨rfl, b5⟩
  have HA5 := Lib.hid (HA3.out.trans (b5.mono HA3.out.size))
  clear b5 HA3 p4 q4
  go_wp2_with fail
  go_ret
  exact ⟨rfl, HA5.out⟩
theorem eq_any (g : FL) (IH : ∀ g' : FL, g'.sz < g.sz → EqOk g') : EqOk g := by
  intro u v w hu hv
  obtain ⟨au, cu, rfl, _, mu, hcu⟩ := hu.cells
  obtain ⟨av, cv, rfl, _, mv, hcv⟩ := hv.cells
  have HCu := Lib.hid hcu
  have HCv := Lib.hid hcv
  have HI := Lib.hid IH
  clear hu hv hcu hcv IH
  unfold maxLen at mu mv
  have hnn : ((g.len : Int) != (g.len : Int)) = false := by simp
  generalize hn : g.len = n at *
  have HL := Lib.hid hn
  clear hn
  go_enter Try.func34, Try.ntmps34
  go_wp2_with fail
  go_loopw [5] (fun i wr => ∃ k : Nat, k ≤ n ∧ i = .int .i64 k ∧ Below w.heap.size w wr) (fun i _ => n - (intOf i).toNat)
  case atStart => exact ⟨0, by omega, rfl, Below.refl _ _⟩
  case round =>
    obtain ⟨j, hj, rfl, hb⟩ := hrel
    by_cases hlt : j < n
    · obtain ⟨b, off, rfl, _, hbl, hat⟩ := HCu.out (by omega)
      obtain ⟨b', off', rfl, _, hbl', hat'⟩ := HCv.out (by omega)
      obtain ⟨k, x1, x2, x3, f, r, hd1, hd2⟩ := FL.drop_at j g (by have := HL.out; omega)
      obtain ⟨u, c0, c1, c2, c3, c4, hk⟩ := hat j k x1 x2 x3 f r hd1
      obtain ⟨v, d0, d1, d2, d3, d4, hk'⟩ := hat' j k x1 x2 x3 f r hd1
      rw [← (bcell hb).1 _ _ hbl] at c0 c1 c2 c3 c4
      rw [← (bcell hb).1 _ _ hbl'] at d0 d1 d2 d3 d4
      have HB2 : Hid (Below w.heap.size w wr.drew) := Lib.hid hb.drew
      have HS := Lib.hid (eq_step (HI.out f (sz_kid hd1)) k x1 x2 x3 u v wr.drew (hk.below HB2.out) (hk'.below HB2.out))
      obtain ⟨ad, cap', rfl, _⟩ := hk.cells
      obtain ⟨ad', cap2', rfl, _⟩ := hk'.cells
      clear hat hat' hk hk' hd1 hd2
      unfold fmV at HS
      have HB := Lib.hid hb
      clear hb
      go_wp2_with fail
      go_still_tail 8, (by kernel_rfl)
      clear c0 c1 c2 c3 c4 d0 d1 d2 d3 d4
      go_wp2_with fail
      refine HS.out.mono ?_
      rintro e w3 ⟨rfl, b3⟩
      have hb3 := HB2.out.trans (b3.mono HB2.out.size)
      clear b3
      go_wp2_with fail
      go_roundw
      case rel => exact ⟨j + 1, by omega, by go_num, hb3⟩
      case measure => simp [intOf]; omega
    · obtain rfl : j = n := by omega
      go_wp2_with fail
      go_ret
      exact ⟨rfl, hb⟩
theorem eqOk_all : ∀ (n : Nat) (g : FL), g.sz < n → EqOk g := by
  intro n
  induction n with
  | zero => intro g h; omega
  | succ n ih => intro g h; exact eq_any g (fun g' h' => ih g' (by omega))
theorem eqFm_same {g : FL} (k a b c : Int) (u v : Value) (w : World) (hu : Kids AllS w u g) (hv : Kids AllS w v g) :
    Calls Try.prog 15 #[fmV k a b c u, fmV k a b c v] w fun e w' => e = .returned (.bool true) ∧ Below w.heap.size w w' :=
  eq_step (eqOk_all _ g (Nat.lt_succ_self _)) k a b c u v w hu hv
end Go.Proofs.Ytdloeiaaokhniaa
