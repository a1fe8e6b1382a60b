/- Valid formulas, in the program. -/
import Derived.Test.YtdloeiaaokhniaaFmEq
import Derived.Test.YtdloeiaaokhniaaRange
namespace Go.Proofs.Ytdloeiaaokhniaa
open Go.RowKit
open FL
set_option maxHeartbeats 1000000
set_option maxRecDepth 100000
set_option linter.unusedVariables false

def VaOk (g : FL) : Prop := ∀ (k a b c : Int) (v : Value) (w : World) (d : Nat), Kids AllS w v g → d ≤ 6 →
  Calls Try.prog 33 #[fmV k a b c v, .int .i64 d] w fun e w' => e = .returned (.bool (okFm k a b c g d)) ∧ Below w.heap.size w w'

theorem va_row (g : FL) (IH : ∀ g' : FL, g'.sz < g.sz → VaOk g') (k : Int) (v : Value) (w : World) (d : Nat) (h : Kids AllS w v g) (hd : d ≤ 6)
    (hk : (k = 2 ∧ g.len ≤ 6) ∨ (k = 3 ∧ g.len = 2) ∨ (k = 4 ∧ g.len = 2) ∨ (k = 5 ∧ g.len = 2) ∨ (k = 6 ∧ g.len = 1)) (h0 : g.len = 0 ∨ 0 < d) :
    Calls Try.prog 33 #[fmV k 0 0 0 v, .int .i64 d] w fun e w' => e = .returned (.bool (okFm k 0 0 0 g d)) ∧ Below w.heap.size w w' := by
  obtain ⟨ad, cap, rfl, _, hm, hcell⟩ := h.cells
  have HCe := Lib.hid hcell
  have HI := Lib.hid IH
  clear h hcell IH
  unfold maxLen at hm
  have HA : Hid (Below w.heap.size w (w.alloc (.cells #[.int .i64 k, .int .i64 0, .int .i64 0, .int .i64 0, .slice ad g.len cap] 32))) := Lib.hid ((Below.refl _ _).alloc (Nat.le_refl _) _)
  have F0 := Lib.hid (Five.new 32 w (.int .i64 k) (.int .i64 0) (.int .i64 0) (.int .i64 0) (.slice ad g.len cap))
  have HE : Hid (okFm k 0 0 0 g d = allV (d - 1) g) := Lib.hid (by
    have : okNode k 0 0 0 g.len d = true := by
      unfold okNode
      rcases hk with ⟨rfl, hn⟩ | ⟨rfl, hn⟩ | ⟨rfl, hn⟩ | ⟨rfl, hn⟩ | ⟨rfl, hn⟩ <;> simp <;> omega
    unfold okFm; rw [this, Bool.true_and])
  have HN : Hid (FL.drop g.len g = FL.nil) := Lib.hid (FL.drop_end g)
  have HAt := Lib.hid (fun j (h : j < g.len) => FL.drop_at j g h)
  have m6 : decide ((6 : Int) < (g.len : Int)) = false := decide_eq_false (by omega)
  unfold fmV
  by_cases hz : g.len = 0
  · have hk2 : k = 2 := by omega
    subst hk2
    have HT : Hid (allV (d - 1) g = true) := Lib.hid (by
      have := HN.out
      rw [hz] at this
      show allV (d - 1) g = true
      rw [show g = FL.nil from this]; rfl)
    have p0 : decide ((0 : Int) < (g.len : Int)) = false := decide_eq_false (by omega)
    have p1 : decide (0 < g.len) = false := decide_eq_false (by omega)
    clear hk h0
    generalize g.len = n at *
    subst hz
    go_enter Try.func33, Try.ntmps33
    go_wp2_with fail
    go_loopw [64] (fun i wr => i = .int .i64 0 ∧ Hid (Below w.heap.size w wr)) (fun i _ => 0)
    case atStart => exact ⟨rfl, HA⟩
    case round =>
      obtain ⟨rfl, HB⟩ := hrel
      go_wp2_with fail
      go_ret
      exact ⟨by rw [HE.out, HT.out]; rfl, HB.out⟩
  · obtain ⟨d, rfl⟩ : ∃ e, d = e + 1 := ⟨d - 1, by omega⟩
    have p0 : decide ((0 : Int) < (g.len : Int)) = true := decide_eq_true (by omega)
    have p1 : decide (0 < g.len) = true := decide_eq_true (by omega)
    obtain ⟨lv, hlv⟩ : ∃ lv : Int, ((d + 1 : Nat) : Int) = lv := ⟨_, rfl⟩
    have q0 : (lv == 0) = false := by rw [beq_eq_false_iff_ne]; omega
    have hs : IntKind.i64.wrap (lv - 1) = (d : Int) := by rw [show lv - 1 = (d : Int) by omega]; exact IntWalk.i64_in _ (by omega)
    rw [hlv]
    clear hlv
    rcases hk with ⟨rfl, hn⟩ | ⟨rfl, hn⟩ | ⟨rfl, hn⟩ | ⟨rfl, hn⟩ | ⟨rfl, hn⟩
    all_goals
      try have m2 : ((g.len : Int) != 2) = false := by rw [bne_eq_false_iff_eq]; omega
      try have m1 : ((g.len : Int) != 1) = false := by rw [bne_eq_false_iff_eq]; omega
      generalize hg : g.len = n at *
      have HL := Lib.hid hg
      clear hg h0 hn
      go_enter Try.func33, Try.ntmps33
      go_wp2_with fail
      generalize w.alloc (.cells #[.int .i64 _, .int .i64 0, .int .i64 0, .int .i64 0, .slice ad n cap] 32) = W at *
      go_loopw [7, 64] (fun _ i wr => ∃ j : Nat, j ≤ n ∧ i = .int .i64 j ∧ Hid (allV d (FL.drop j g) = allV d g) ∧ Hid (Below w.heap.size w wr)) (fun _ i _ => n - (intOf i).toNat)
      case atStart => exact ⟨0, by omega, rfl, Lib.hid rfl, HA⟩
      case round =>
        obtain ⟨j, hj, rfl, HV, HB⟩ := hrel
        by_cases hlt : j < n
        · obtain ⟨b, off, rfl, _, hb, hat⟩ := HCe.out (by omega)
          obtain ⟨k, x1, x2, x3, f, r, hd1, hd2⟩ := HAt.out j hlt
          obtain ⟨u, c0, c1, c2, c3, c4, hk⟩ := hat j k x1 x2 x3 f r hd1
          rw [← (bcell HB.out).1 _ _ hb] at c0 c1 c2 c3 c4
          have hVd := HV.out
          rw [hd1, allV] at hVd
          have HS := Lib.hid (fun (w' : World) (hb' : Below w.heap.size w w') => HI.out f (sz_kid hd1) k x1 x2 x3 u w' d (hk.below hb') (by omega))
          obtain ⟨ad, cap', rfl, _⟩ := hk.cells
          have HB7 := Lib.hid (HB.out.alloc HB.out.size (.cells #[.int .i64 k, .int .i64 x1, .int .i64 x2, .int .i64 x3, .slice ad f.len cap'] 32))
          have HVt : Hid (okFm k x1 x2 x3 f d = true → allV d (FL.drop (j + 1) g) = allV d g) := Lib.hid (fun h => by
            rw [hd2]
            unfold okFm at h
            rw [h, Bool.true_and] at hVd
            exact hVd)
          have HVf : Hid (okFm k x1 x2 x3 f d = false → allV d g = false) := Lib.hid (fun h => by
            unfold okFm at h
            rw [h, Bool.false_and] at hVd
            exact hVd.symm)
          clear hat hk hd1 hd2 hVd HV
          unfold fmV at HS
          go_wp2_with fail
          refine (HS.out _ HB7.out).mono ?_
          rintro e w3 ⟨he, b3⟩
          have HB3 := Lib.hid (HB7.out.trans (b3.mono HB7.out.size))
          clear b3 HB HB7 HS c0 c1 c2 c3 c4
          cases hq : okFm k x1 x2 x3 f d with
          | true =>
            rw [hq] at he
            subst he
            have HVn := Lib.hid (HVt.out hq)
            clear hq
            go_wp2_with fail
            go_roundw
            case rel => exact ⟨j + 1, by omega, by first | rfl | go_num, HVn, HB3⟩
            case measure => simp [intOf]; omega
          | false =>
            rw [hq] at he
            subst he
            have HVn := Lib.hid (HVf.out hq)
            clear hq
            go_wp2_with fail
            go_ret
            exact ⟨by rw [HE.out, Nat.add_sub_cancel, HVn.out]; rfl, HB3.out⟩
        · obtain rfl : j = n := by omega
          have HVn : Hid (allV d g = true) := Lib.hid (by rw [← HV.out, HN.out]; rfl)
          go_wp2_with fail
          go_ret
          exact ⟨by rw [HE.out, Nat.add_sub_cancel, HVn.out]; rfl, HB.out⟩
theorem va_no (g : FL) (k a b c : Int) (v : Value) (w : World) (d : Nat) (h : Kids AllS w v g) (hd : d ≤ 6) (h1 : ¬ k = 1) (hno : okNode k a b c g.len d = false) :
    Calls Try.prog 33 #[fmV k a b c v, .int .i64 d] w fun e w' => e = .returned (.bool (okFm k a b c g d)) ∧ Below w.heap.size w w' := by
  obtain ⟨ad, cap, rfl, hlc, hm, -⟩ := h.cells
  unfold maxLen at hm
  have HA : Hid (∀ (k a b c : Int) (n : Nat), Below w.heap.size w (w.alloc (.cells #[.int .i64 k, .int .i64 a, .int .i64 b, .int .i64 c, .slice ad n cap] 32))) := Lib.hid (fun k a b c n => (Below.refl _ _).alloc (Nat.le_refl _) _)
  have HE : Hid (okFm k a b c g d = false) := Lib.hid (by unfold okFm; rw [hno]; rfl)
  have e1 : (k == 1) = false := by rw [beq_eq_false_iff_ne]; exact h1
  clear h
  unfold fmV
  generalize g.len = n at *
  have hnode : ¬ ((k = 2 ∧ n ≤ 6) ∨ ((k = 3 ∨ k = 4 ∨ k = 5) ∧ n = 2) ∨ (k = 6 ∧ n = 1)) ∨ ¬ (a = 0 ∧ b = 0 ∧ c = 0) ∨ (0 < n ∧ d = 0) := by
    unfold okNode at hno
    rw [if_neg h1] at hno
    simp only [Bool.and_eq_false_iff, Bool.or_eq_false_iff, Bool.not_eq_false', Bool.and_eq_true, decide_eq_true_eq, decide_eq_false_iff_not] at hno
    omega
  by_cases har : (k = 2 ∧ n ≤ 6) ∨ ((k = 3 ∨ k = 4 ∨ k = 5) ∧ n = 2) ∨ (k = 6 ∧ n = 1)
  · have hrest : ¬ (a = 0 ∧ b = 0 ∧ c = 0) ∨ ((a = 0 ∧ b = 0 ∧ c = 0) ∧ 0 < n ∧ d = 0) := by omega
    have m6 : decide ((6 : Int) < (n : Int)) = false := decide_eq_false (by omega)
    clear hnode hno h1
    rcases (show (k = 2 ∧ n ≤ 6) ∨ (k = 3 ∧ n = 2) ∨ (k = 4 ∧ n = 2) ∨ (k = 5 ∧ n = 2) ∨ (k = 6 ∧ n = 1) by omega) with ⟨rfl, hn⟩ | ⟨rfl, hn⟩ | ⟨rfl, hn⟩ | ⟨rfl, hn⟩ | ⟨rfl, hn⟩
    all_goals
      try have m2 : ((n : Int) != 2) = false := by rw [bne_eq_false_iff_eq]; omega
      try have m1 : ((n : Int) != 1) = false := by rw [bne_eq_false_iff_eq]; omega
      clear har hn
      rcases hrest with hne | ⟨⟨rfl, rfl, rfl⟩, h2, rfl⟩
      · go_enter Try.func33, Try.ntmps33
        go_wp2_with fail
        all_goals first | (exfalso; exact hne ⟨by assumption, by assumption, by assumption⟩) | (go_ret; exact ⟨by rw [HE.out]; rfl, HA.out ..⟩)
      · have p0 : decide ((0 : Int) < (n : Int)) = true := decide_eq_true (by omega)
        have p1 : decide (0 < n) = true := decide_eq_true (by omega)
        go_enter Try.func33, Try.ntmps33
        go_wp2_with fail
        go_ret
        exact ⟨by rw [HE.out]; rfl, HA.out ..⟩
  · clear hnode hno
    by_cases h2 : k = 2
    · subst h2
      have m6 : decide ((6 : Int) < (n : Int)) = true := decide_eq_true (by omega)
      clear har h1
      go_enter Try.func33, Try.ntmps33
      go_wp2_with fail
      go_ret
      exact ⟨by rw [HE.out]; rfl, HA.out ..⟩
    · have e2 : (k == 2) = false := by rw [beq_eq_false_iff_ne]; exact h2
      by_cases h345 : k = 3 ∨ k = 4 ∨ k = 5
      · have m2 : ((n : Int) != 2) = true := by simp; omega
        rcases h345 with rfl | rfl | rfl
        all_goals
          clear har h1 h2
          go_enter Try.func33, Try.ntmps33
          go_wp2_with fail
          go_ret
          exact ⟨by rw [HE.out]; rfl, HA.out ..⟩
      · have e3 : (k == 3) = false := by rw [beq_eq_false_iff_ne]; omega
        have e4 : (k == 4) = false := by rw [beq_eq_false_iff_ne]; omega
        have e5 : (k == 5) = false := by rw [beq_eq_false_iff_ne]; omega
        by_cases h6 : k = 6
        · subst h6
          have m1 : ((n : Int) != 1) = true := by simp; omega
          clear har h1 h2 h345
          go_enter Try.func33, Try.ntmps33
          go_wp2_with fail
          go_ret
          exact ⟨by rw [HE.out]; rfl, HA.out ..⟩
        · have e6 : (k == 6) = false := by rw [beq_eq_false_iff_ne]; exact h6
          clear har h1 h2 h345 h6
          go_enter Try.func33, Try.ntmps33
          go_wp2_with fail
          go_ret
          exact ⟨by rw [HE.out]; rfl, HA.out ..⟩

theorem va_sym (g : FL) (a b c : Int) (v : Value) (w : World) (d : Nat) (h : Kids AllS w v g) (hd : d ≤ 6) :
    Calls Try.prog 33 #[fmV 1 a b c v, .int .i64 d] w fun e w' => e = .returned (.bool (okFm 1 a b c g d)) ∧ Below w.heap.size w w' := by
  obtain ⟨ad, cap, rfl, hlc, hm, -⟩ := h.cells
  unfold maxLen at hm
  have HA : Hid (∀ (a b c : Int) (n : Nat), Below w.heap.size w (w.alloc (.cells #[.int .i64 1, .int .i64 a, .int .i64 b, .int .i64 c, .slice ad n cap] 32))) := Lib.hid (fun a b c n => (Below.refl _ _).alloc (Nat.le_refl _) _)
  have HE : Hid (okFm 1 a b c g d = (decide (g.len = 0) && decide (0 ≤ a ∧ a ≤ 100) && decide (0 ≤ b ∧ b ≤ 100) && decide (0 ≤ c ∧ c ≤ 100))) := Lib.hid (by
    unfold okFm okNode
    rw [if_pos rfl]
    by_cases h0 : g.len = 0
    · have : g = FL.nil := by
        have := FL.drop_end g
        rw [h0] at this
        exact this
      subst this
      simp [allV]
    · rw [decide_eq_false h0]; rfl)
  clear h
  unfold fmV
  generalize g.len = n at *
  by_cases h0 : n = 0
  · have p0 : ((n : Int) == 0) = true := by rw [beq_iff_eq]; omega
    have q0 : decide (n = 0) = true := decide_eq_true h0
    rw [q0, Bool.true_and] at HE
    by_cases ha : 0 ≤ a ∧ a ≤ 100
    · have pa : decide (0 ≤ a ∧ a ≤ 100) = true := decide_eq_true ha
      rw [pa, Bool.true_and] at HE
      by_cases hb : 0 ≤ b ∧ b ≤ 100
      · have pb : decide (0 ≤ b ∧ b ≤ 100) = true := decide_eq_true hb
        rw [pb, Bool.true_and] at HE
        clear ha hb h0 q0
        go_enter Try.func33, Try.ntmps33
        go_wp2_with fail
        refine (within_any _ _ _ _).mono ?_
        rintro e w1 ⟨rfl, rfl⟩
        go_wp2_with fail
        refine (within_any _ _ _ _).mono ?_
        rintro e w1 ⟨rfl, rfl⟩
        go_wp2_with fail
        refine (within_any _ _ _ _).mono ?_
        rintro e w1 ⟨rfl, rfl⟩
        go_wp2_with fail
        go_ret
        exact ⟨by rw [HE.out, Bool.decide_and]; rfl, HA.out ..⟩
      · have pb : decide (0 ≤ b ∧ b ≤ 100) = false := decide_eq_false hb
        rw [pb, Bool.false_and] at HE
        clear ha hb h0 q0
        go_enter Try.func33, Try.ntmps33
        go_wp2_with fail
        refine (within_any _ _ _ _).mono ?_
        rintro e w1 ⟨rfl, rfl⟩
        go_wp2_with fail
        refine (within_any _ _ _ _).mono ?_
        rintro e w1 ⟨rfl, rfl⟩
        go_wp2_with fail
        go_ret
        exact ⟨by rw [HE.out]; rfl, HA.out ..⟩
    · have pa : decide (0 ≤ a ∧ a ≤ 100) = false := decide_eq_false ha
      rw [pa, Bool.false_and, Bool.false_and] at HE
      clear ha h0 q0
      go_enter Try.func33, Try.ntmps33
      go_wp2_with fail
      refine (within_any _ _ _ _).mono ?_
      rintro e w1 ⟨rfl, rfl⟩
      go_wp2_with fail
      go_ret
      exact ⟨by rw [HE.out]; rfl, HA.out ..⟩
  · have p0 : ((n : Int) == 0) = false := by rw [beq_eq_false_iff_ne]; omega
    have q0 : decide (n = 0) = false := decide_eq_false h0
    rw [q0, Bool.false_and, Bool.false_and, Bool.false_and] at HE
    clear h0 q0
    go_enter Try.func33, Try.ntmps33
    go_wp2_with fail
    go_ret
    exact ⟨by rw [HE.out]; rfl, HA.out ..⟩
theorem va_any (g : FL) (IH : ∀ g' : FL, g'.sz < g.sz → VaOk g') : VaOk g := by
  intro k a b c v w d h hd
  by_cases h1 : k = 1
  · subst h1; exact va_sym g a b c v w d h hd
  · cases hok : okNode k a b c g.len d with
    | false => exact va_no g k a b c v w d h hd h1 hok
    | true =>
      rcases okNode_cases hok with ⟨e, _⟩ | ⟨rfl, rfl, rfl, h0, hk⟩
      · exact absurd e h1
      · exact va_row g IH k v w d h hd hk h0
theorem vaOk_all : ∀ (n : Nat) (g : FL), g.sz < n → VaOk g := by
  intro n
  induction n with
  | zero => intro g h; omega
  | succ n ih => intro g h; exact va_any g (fun g' h' => ih g' (by omega))
theorem validFm_any (g : FL) (k a b c : Int) (v : Value) (w : World) (h : Kids AllS w v g) :
    Calls Try.prog 14 #[fmV k a b c v] w fun e w' => e = .returned (.bool (okFm k a b c g 6)) ∧ Below w.heap.size w w' := by
  obtain ⟨ad, cap, rfl, _⟩ := h.cells
  have HA : Hid (Below w.heap.size w (w.alloc (.cells #[.int .i64 k, .int .i64 a, .int .i64 b, .int .i64 c, .slice ad g.len cap] 32))) := Lib.hid ((Below.refl _ _).alloc (Nat.le_refl _) _)
  have HK := Lib.hid (vaOk_all _ g (Nat.lt_succ_self _) k a b c _ _ 6 (h.below HA.out) (Nat.le_refl _))
  clear h
  unfold fmV at HK ⊢
  go_enter Try.func14, Try.ntmps14
  go_wp2_with fail
  refine HK.out.mono ?_
  rintro e w1 ⟨rfl, b1⟩
  go_wp2_with fail
  go_ret
  exact ⟨rfl, HA.out.trans (b1.mono HA.out.size)⟩
end Go.Proofs.Ytdloeiaaokhniaa
