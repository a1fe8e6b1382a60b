/- Valid formulas, in the reference. -/
import Derived.Test.YtdloeiaaokhniaaFmEq
import Derived.Test.YtdloeiaaokhniaaRange
namespace Go.Proofs.Ytdloeiaaokhniaa
open Go.RowKit
open FL
set_option maxHeartbeats 1000000
set_option maxRecDepth 100000
set_option linter.unusedVariables false

def kidsZ (k : Int) : Int := if k = 1 then 0 else if k = 2 then -2 else if k = 3 ∨ k = 4 ∨ k = 5 then 2 else if k = 6 then 1 else -1
theorem kidsOf_any (k : Int) (w : World) :
    Calls Try.prog 50 #[.int .i64 k] w fun e w' => e = .returned (.int .i64 (kidsZ k)) ∧ w = w' := by
  by_cases h : k = 1 ∨ k = 2 ∨ k = 3 ∨ k = 4 ∨ k = 5 ∨ k = 6
  · rcases h with rfl | rfl | rfl | rfl | rfl | rfl
    all_goals
      go_enter Try.func50, Try.ntmps50
      go_wp2_with fail
      go_ret
      exact ⟨rfl, rfl⟩
  · have e1 : (k == 1) = false := by rw [beq_eq_false_iff_ne]; omega
    have e2 : (k == 2) = false := by rw [beq_eq_false_iff_ne]; omega
    have e3 : (k == 3) = false := by rw [beq_eq_false_iff_ne]; omega
    have e4 : (k == 4) = false := by rw [beq_eq_false_iff_ne]; omega
    have e5 : (k == 5) = false := by rw [beq_eq_false_iff_ne]; omega
    have e6 : (k == 6) = false := by rw [beq_eq_false_iff_ne]; omega
    have HE : Hid (kidsZ k = -1) := Lib.hid (by unfold kidsZ; rw [if_neg (by omega), if_neg (by omega), if_neg (by omega), if_neg (by omega)])
    clear h
    go_enter Try.func50, Try.ntmps50
    go_wp2_with fail
    go_ret
    exact ⟨by rw [HE.out]; rfl, rfl⟩

def VsOk (g : FL) : Prop := ∀ (k a b c : Int) (v : Value) (w : World) (d : Nat), Kids AllS w v g → d ≤ 6 →
  Calls Try.prog 30 #[fmV k a b c v, .int .i64 d] w fun e w' => e = .returned (.bool (okFm k a b c g d)) ∧ Below w.heap.size w w'

/-- The number of kids does not fit. -/
theorem vs_no (g : FL) (k a b c : Int) (v : Value) (w : World) (d : Nat) (h : Kids AllS w v g) (hd : d ≤ 6)
    (hno : ¬ ((k = 1 ∧ g.len = 0) ∨ (k = 2 ∧ g.len ≤ 6) ∨ ((k = 3 ∨ k = 4 ∨ k = 5) ∧ g.len = 2) ∨ (k = 6 ∧ g.len = 1)) ∨ (0 < g.len ∧ d = 0)) :
    Calls Try.prog 30 #[fmV k a b c v, .int .i64 d] w fun e w' => e = .returned (.bool (okFm k a b c g d)) ∧ Below w.heap.size w w' := by
  obtain ⟨ad, cap, rfl, hlc, hm, -⟩ := h.cells
  unfold maxLen at hm
  have HA : Hid (∀ (k a b c : Int) (n : Nat), Below w.heap.size w (w.alloc (.cells #[.int .i64 k, .int .i64 a, .int .i64 b, .int .i64 c, .slice ad n cap] 32))) := Lib.hid (fun k a b c n => (Below.refl _ _).alloc (Nat.le_refl _) _)
  have HE : Hid (okFm k a b c g d = false) := Lib.hid (by
    cases e : okFm k a b c g d with
    | false => rfl
    | true =>
      unfold okFm at e
      rw [Bool.and_eq_true] at e
      rcases okNode_cases e.1 with ⟨h1, h2, _⟩ | ⟨_, _, _, h0, hk⟩ <;> omega)
  clear h
  unfold fmV
  generalize g.len = n at *
  obtain ⟨z, hz⟩ : ∃ z, kidsZ k = z := ⟨_, rfl⟩
  have HZ := Lib.hid hz
  have hz2 : (z = 0 ∧ k = 1) ∨ (z = -2 ∧ k = 2) ∨ (z = 2 ∧ (k = 3 ∨ k = 4 ∨ k = 5)) ∨ (z = 1 ∧ k = 6) ∨ (z = -1 ∧ ¬ (k = 1 ∨ k = 2 ∨ k = 3 ∨ k = 4 ∨ k = 5 ∨ k = 6)) := by
    unfold kidsZ at hz
    split at hz
    · omega
    · split at hz
      · omega
      · split at hz
        · omega
        · split at hz <;> omega
  clear hz
  by_cases c1 : z = -1
  · subst c1
    clear hz2 hno
    go_enter Try.func30, Try.ntmps30
    go_wp2_with fail
    refine (kidsOf_any k _).mono ?_
    rintro e w1 ⟨rfl, rfl⟩
    rw [HZ.out]
    go_wp2_with fail
    go_ret
    exact ⟨by rw [HE.out]; rfl, HA.out ..⟩
  · have b1 : (z == -1) = false := by rw [beq_eq_false_iff_ne]; exact c1
    by_cases c2 : 0 ≤ z
    · have b2 : decide (0 ≤ z) = true := decide_eq_true c2
      by_cases c3 : (n : Int) = z
      · have b3 : ((n : Int) != z) = false := by rw [bne_eq_false_iff_eq]; exact c3
        have b4 : decide ((6 : Int) < (n : Int)) = false := decide_eq_false (by omega)
        have hnd : 0 < n ∧ d = 0 := by omega
        have b5 : decide ((0 : Int) < (n : Int)) = true := decide_eq_true (by omega)
        obtain ⟨hn0, rfl⟩ := hnd
        have b6 : decide (0 < n) = true := decide_eq_true hn0
        clear hz2 hno c1 c2 c3
        go_enter Try.func30, Try.ntmps30
        go_wp2_with fail
        refine (kidsOf_any k _).mono ?_
        rintro e w1 ⟨rfl, rfl⟩
        rw [HZ.out]
        go_wp2_with fail
        go_ret
        exact ⟨by rw [HE.out]; rfl, HA.out ..⟩
      · have b3 : ((n : Int) != z) = true := by simpa using c3
        clear hz2 hno c1 c2 c3
        go_enter Try.func30, Try.ntmps30
        go_wp2_with fail
        refine (kidsOf_any k _).mono ?_
        rintro e w1 ⟨rfl, rfl⟩
        rw [HZ.out]
        go_wp2_with fail
        go_ret
        exact ⟨by rw [HE.out]; rfl, HA.out ..⟩
    · have b2 : decide (0 ≤ z) = false := decide_eq_false c2
      by_cases c4 : 6 < n
      · have b4 : decide ((6 : Int) < (n : Int)) = true := decide_eq_true (by omega)
        have b5 : decide (6 < n) = true := decide_eq_true c4
        clear hz2 hno c1 c2 c4
        go_enter Try.func30, Try.ntmps30
        go_wp2_with fail
        refine (kidsOf_any k _).mono ?_
        rintro e w1 ⟨rfl, rfl⟩
        rw [HZ.out]
        go_wp2_with fail
        go_ret
        exact ⟨by rw [HE.out]; rfl, HA.out ..⟩
      · have b4 : decide ((6 : Int) < (n : Int)) = false := decide_eq_false (by omega)
        have hnd : 0 < n ∧ d = 0 := by omega
        have b5 : decide ((0 : Int) < (n : Int)) = true := decide_eq_true (by omega)
        obtain ⟨hn0, rfl⟩ := hnd
        have b6 : decide (0 < n) = true := decide_eq_true hn0
        clear hz2 hno c1 c2 c4
        go_enter Try.func30, Try.ntmps30
        go_wp2_with fail
        refine (kidsOf_any k _).mono ?_
        rintro e w1 ⟨rfl, rfl⟩
        rw [HZ.out]
        go_wp2_with fail
        go_ret
        exact ⟨by rw [HE.out]; rfl, HA.out ..⟩
theorem vs_sym (g : FL) (a b c : Int) (v : Value) (w : World) (d : Nat) (h : Kids AllS w v g) (hd : d ≤ 6) (h0 : g.len = 0) :
    Calls Try.prog 30 #[fmV 1 a b c v, .int .i64 d] w fun e w' => e = .returned (.bool (okFm 1 a b c g d)) ∧ Below w.heap.size w w' := by
  obtain ⟨ad, cap, rfl, hlc, hm, -⟩ := h.cells
  unfold maxLen at hm
  have HA : Hid (∀ (a b c : Int) (n : Nat), Below w.heap.size w (w.alloc (.cells #[.int .i64 1, .int .i64 a, .int .i64 b, .int .i64 c, .slice ad n cap] 32))) := Lib.hid (fun a b c n => (Below.refl _ _).alloc (Nat.le_refl _) _)
  have HE : Hid (okFm 1 a b c g d = (decide (0 ≤ a ∧ a ≤ 100) && decide (0 ≤ b ∧ b ≤ 100) && decide (0 ≤ c ∧ c ≤ 100))) := Lib.hid (by
    have : g = FL.nil := by
      have := FL.drop_end g
      rw [h0] at this
      exact this
    subst this
    unfold okFm okNode
    rw [if_pos rfl]
    simp [allV, FL.len])
  have HZ : Hid (kidsZ 1 = 0) := Lib.hid rfl
  clear h
  unfold fmV
  generalize g.len = n at *
  subst h0
  have hfin : ∀ bb : Bool, Hid (okFm 1 a b c g d = bb) → True := fun _ _ => trivial
  by_cases ha : 0 ≤ a ∧ a ≤ 100
  · have pa : decide (0 ≤ a ∧ a ≤ 100) = true := decide_eq_true ha
    rw [pa, Bool.true_and] at HE
    by_cases hb : 0 ≤ b ∧ b ≤ 100
    · have pb : decide (0 ≤ b ∧ b ≤ 100) = true := decide_eq_true hb
      rw [pb, Bool.true_and] at HE
      clear ha hb
      go_enter Try.func30, Try.ntmps30
      go_wp2_with fail
      refine (kidsOf_any 1 _).mono ?_
      rintro e w1 ⟨rfl, rfl⟩
      rw [HZ.out]
      go_wp2_with fail
      go_loopw [6] (fun i wr => i = .int .i64 0 ∧ wr = w.alloc (.cells #[.int .i64 1, .int .i64 a, .int .i64 b, .int .i64 c, .slice ad 0 cap] 32)) (fun i _ => 0)
      case atStart => exact ⟨rfl, rfl⟩
      case round =>
        obtain ⟨rfl, rfl⟩ := hrel
        go_wp2_with fail
        refine (inRange_any _ _ _ _).mono ?_
        rintro e w1 ⟨rfl, rfl⟩
        go_wp2_with fail
        refine (inRange_any _ _ _ _).mono ?_
        rintro e w1 ⟨rfl, rfl⟩
        go_wp2_with fail
        refine (inRange_any _ _ _ _).mono ?_
        rintro e w1 ⟨rfl, rfl⟩
        go_wp2_with fail
        go_ret
        exact ⟨by rw [HE.out, Bool.decide_and]; rfl, HA.out ..⟩
    · have pb : decide (0 ≤ b ∧ b ≤ 100) = false := decide_eq_false hb
      rw [pb, Bool.false_and] at HE
      clear ha hb
      go_enter Try.func30, Try.ntmps30
      go_wp2_with fail
      refine (kidsOf_any 1 _).mono ?_
      rintro e w1 ⟨rfl, rfl⟩
      rw [HZ.out]
      go_wp2_with fail
      go_loopw [6] (fun i wr => i = .int .i64 0 ∧ wr = w.alloc (.cells #[.int .i64 1, .int .i64 a, .int .i64 b, .int .i64 c, .slice ad 0 cap] 32)) (fun i _ => 0)
      case atStart => exact ⟨rfl, rfl⟩
      case round =>
        obtain ⟨rfl, rfl⟩ := hrel
        go_wp2_with fail
        refine (inRange_any _ _ _ _).mono ?_
        rintro e w1 ⟨rfl, rfl⟩
        go_wp2_with fail
        refine (inRange_any _ _ _ _).mono ?_
        rintro e w1 ⟨rfl, rfl⟩
        go_wp2_with fail
        go_ret
        exact ⟨by rw [HE.out]; rfl, HA.out ..⟩
  · have pa : decide (0 ≤ a ∧ a ≤ 100) = false := decide_eq_false ha
    rw [pa, Bool.false_and, Bool.false_and] at HE
    clear ha
    go_enter Try.func30, Try.ntmps30
    go_wp2_with fail
    refine (kidsOf_any 1 _).mono ?_
    rintro e w1 ⟨rfl, rfl⟩
    rw [HZ.out]
    go_wp2_with fail
    go_loopw [6] (fun i wr => i = .int .i64 0 ∧ wr = w.alloc (.cells #[.int .i64 1, .int .i64 a, .int .i64 b, .int .i64 c, .slice ad 0 cap] 32)) (fun i _ => 0)
    case atStart => exact ⟨rfl, rfl⟩
    case round =>
      obtain ⟨rfl, rfl⟩ := hrel
      go_wp2_with fail
      refine (inRange_any _ _ _ _).mono ?_
      rintro e w1 ⟨rfl, rfl⟩
      go_wp2_with fail
      go_ret
      exact ⟨by rw [HE.out]; rfl, HA.out ..⟩

theorem vs_row (g : FL) (IH : ∀ g' : FL, g'.sz < g.sz → VsOk g') (k a b c : Int) (v : Value) (w : World) (d : Nat) (h : Kids AllS w v g) (hd : d ≤ 6)
    (hk : (k = 2 ∧ g.len ≤ 6) ∨ (k = 3 ∧ g.len = 2) ∨ (k = 4 ∧ g.len = 2) ∨ (k = 5 ∧ g.len = 2) ∨ (k = 6 ∧ g.len = 1)) (h0 : g.len = 0 ∨ 0 < d) :
    Calls Try.prog 30 #[fmV k a b c v, .int .i64 d] w fun e w' => e = .returned (.bool (okFm k a b c g d)) ∧ Below w.heap.size w w' := by
  obtain ⟨ad, cap, rfl, hlc, hm, hcell⟩ := h.cells
  have HCe := Lib.hid hcell
  have HI := Lib.hid IH
  clear h hcell IH
  unfold maxLen at hm
  have HA : Hid (∀ (k a b c : Int) (n : Nat), Below w.heap.size w (w.alloc (.cells #[.int .i64 k, .int .i64 a, .int .i64 b, .int .i64 c, .slice ad n cap] 32))) := Lib.hid (fun k a b c n => (Below.refl _ _).alloc (Nat.le_refl _) _)
  have F0 := Lib.hid (Five.new 32 w (.int .i64 k) (.int .i64 a) (.int .i64 b) (.int .i64 c) (.slice ad g.len cap))
  have HE : Hid (okFm k a b c g d = (decide (a = 0 ∧ b = 0 ∧ c = 0) && allV (d - 1) g)) := Lib.hid (by
    have : okNode k a b c g.len d = decide (a = 0 ∧ b = 0 ∧ c = 0) := by
      by_cases hz : a = 0 ∧ b = 0 ∧ c = 0
      · obtain ⟨rfl, rfl, rfl⟩ := hz
        unfold okNode
        rcases hk with ⟨rfl, hn⟩ | ⟨rfl, hn⟩ | ⟨rfl, hn⟩ | ⟨rfl, hn⟩ | ⟨rfl, hn⟩ <;> simp <;> omega
      · rw [decide_eq_false hz]
        cases e : okNode k a b c g.len d with
        | false => rfl
        | true =>
          rcases okNode_cases e with ⟨h1, _⟩ | ⟨e1, e2, e3, _⟩
          · omega
          · exact absurd ⟨e1, e2, e3⟩ hz
    unfold okFm; rw [this])
  have HN : Hid (FL.drop g.len g = FL.nil) := Lib.hid (FL.drop_end g)
  have HAt := Lib.hid (fun j (h : j < g.len) => FL.drop_at j g h)
  have m6 : decide ((6 : Int) < (g.len : Int)) = false := decide_eq_false (by omega)
  have m6' : decide (6 < g.len) = false := decide_eq_false (by omega)
  have hkz : Hid (kidsZ k = if k = 2 then -2 else (g.len : Int)) := Lib.hid (by
    rcases hk with ⟨rfl, hn⟩ | ⟨rfl, hn⟩ | ⟨rfl, hn⟩ | ⟨rfl, hn⟩ | ⟨rfl, hn⟩
    · rfl
    · rw [hn]; rfl
    · rw [hn]; rfl
    · rw [hn]; rfl
    · rw [hn]; rfl)
  obtain ⟨lv, hlv⟩ : ∃ lv : Int, (d : Int) = lv := ⟨_, rfl⟩
  have q1 : g.len = 0 ∨ (lv == 0) = false := by
    rcases h0 with h0 | h0
    · exact .inl h0
    · exact .inr (by rw [beq_eq_false_iff_ne]; omega)
  have q2 : 0 < g.len → IntKind.i64.wrap (lv - 1) = ((d - 1 : Nat) : Int) := fun h => by rw [show lv - 1 = ((d - 1 : Nat) : Int) by omega]; exact IntWalk.i64_in _ (by omega)
  have q3 : d - 1 ≤ 6 := by omega
  rw [hlv]
  clear hlv
  unfold fmV
  obtain ⟨z, hz⟩ : ∃ z, kidsZ k = z := ⟨_, rfl⟩
  have HZ := Lib.hid hz
  rw [hkz.out] at hz
  have z1 : (z == -1) = false := by rw [beq_eq_false_iff_ne]; split at hz <;> omega
  have k1 : (k == 1) = false := by rw [beq_eq_false_iff_ne]; omega
  have zz : decide (0 ≤ z) = false ∨ (0 < g.len ∧ decide (0 ≤ z) = true ∧ ((g.len : Int) != z) = false) := by
    split at hz
    · exact .inl (decide_eq_false (by omega))
    · exact .inr ⟨by omega, decide_eq_true (by omega), by rw [bne_eq_false_iff_eq]; exact hz⟩
  clear hz hkz hk h0
  generalize hg : g.len = n at *
  have HL := Lib.hid hg
  clear hg
  have pn : decide ((0 : Int) < (n : Int)) = decide (0 < n) := by simp
  generalize hD : d - 1 = D at *
  by_cases hn0 : n = 0
  · have p0 : decide ((0 : Int) < (n : Int)) = false := decide_eq_false (by omega)
    have p1 : decide (0 < n) = false := decide_eq_false (by omega)
    have y1 : decide (0 ≤ z) = false := by
      rcases zz with y1 | ⟨y0, _⟩
      · exact y1
      · omega
    clear pn q1 zz
    subst hn0
    have HT : Hid (allV D g = true) := Lib.hid (by rw [show g = FL.nil from HN.out]; rfl)
    go_enter Try.func30, Try.ntmps30
    go_wp2_with fail
    refine (kidsOf_any k _).mono ?_
    rintro e w1 ⟨rfl, rfl⟩
    rw [HZ.out]
    go_wp2_with fail
    go_loopw [6] (fun i wr => i = .int .i64 0 ∧ wr = w.alloc (.cells #[.int .i64 k, .int .i64 a, .int .i64 b, .int .i64 c, .slice ad 0 cap] 32)) (fun i _ => 0)
    case atStart => exact ⟨rfl, rfl⟩
    case round =>
      obtain ⟨rfl, rfl⟩ := hrel
      go_wp2_with fail
      all_goals
        go_ret
        refine ⟨?_, HA.out ..⟩
        rw [HE.out, HT.out, Bool.and_true]
        first
          | (have hh : decide (a = 0 ∧ b = 0 ∧ c = 0) = true := decide_eq_true ⟨by assumption, by assumption, by assumption⟩
             rw [hh]; rfl)
          | (have hh : decide (a = 0 ∧ b = 0 ∧ c = 0) = false := decide_eq_false (fun h => absurd h.1 (by assumption))
             rw [hh]; rfl)
          | (have hh : decide (a = 0 ∧ b = 0 ∧ c = 0) = false := decide_eq_false (fun h => absurd h.2.1 (by assumption))
             rw [hh]; rfl)
          | (have hh : decide (a = 0 ∧ b = 0 ∧ c = 0) = false := decide_eq_false (fun h => absurd h.2.2 (by assumption))
             rw [hh]; rfl)
  · have p0 : decide ((0 : Int) < (n : Int)) = true := decide_eq_true (by omega)
    have p1 : decide (0 < n) = true := decide_eq_true (by omega)
    have q0 : (lv == 0) = false := q1.resolve_left hn0
    have hs := q2 (by omega)
    have HA1 := Lib.hid (HA.out k a b c n)
    clear pn q1 q2
    rcases zz with y1 | ⟨_, y1, y2⟩
    all_goals
      go_enter Try.func30, Try.ntmps30
      go_wp2_with fail
      refine (kidsOf_any k _).mono ?_
      rintro e w1 ⟨rfl, rfl⟩
      rw [HZ.out]
      go_wp2_with fail
      generalize w.alloc (.cells #[.int .i64 k, .int .i64 a, .int .i64 b, .int .i64 c, .slice ad n cap] 32) = W at *
      go_loopw [6] (fun i wr => ∃ j : Nat, j ≤ n ∧ i = .int .i64 j ∧ Hid (allV D (FL.drop j g) = allV D g) ∧ Hid (Below w.heap.size w wr) ∧ Hid (Five 32 wr w.heap.size (.int .i64 k) (.int .i64 a) (.int .i64 b) (.int .i64 c) (.slice ad n cap))) (fun i _ => n - (intOf i).toNat)
      case atStart => exact ⟨0, by omega, rfl, Lib.hid rfl, HA1, F0⟩
      case round =>
        clear F0 HA1
        obtain ⟨j, hj, rfl, HV, HB, HF⟩ := hrel
        obtain ⟨s0, s1, s2, s3, s4⟩ := HF.out.cells
        by_cases hlt : j < n
        · obtain ⟨b', off, rfl, _, hb, hat⟩ := HCe.out (by omega)
          obtain ⟨k', x1, x2, x3, f, r, hd1, hd2⟩ := HAt.out j hlt
          obtain ⟨u, c0, c1, c2, c3, c4, hk⟩ := hat j k' x1 x2 x3 f r hd1
          rw [← (bcell HB.out).1 _ _ hb] at c0 c1 c2 c3 c4
          have hVd := HV.out
          rw [hd1, allV] at hVd
          have HS := Lib.hid (fun (w' : World) (hb' : Below w.heap.size w w') => HI.out f (sz_kid hd1) k' x1 x2 x3 u w' D (hk.below hb') q3)
          obtain ⟨ad', cap', rfl, _⟩ := hk.cells
          have HVt : Hid (okFm k' x1 x2 x3 f D = true → allV D (FL.drop (j + 1) g) = allV D g) := Lib.hid (fun h => by
            rw [hd2]
            unfold okFm at h
            rw [h, Bool.true_and] at hVd
            exact hVd)
          have HVf : Hid (okFm k' x1 x2 x3 f D = false → allV D g = false) := Lib.hid (fun h => by
            unfold okFm at h
            rw [h, Bool.false_and] at hVd
            exact hVd.symm)
          clear hat hk hd1 hd2 hVd HV
          unfold fmV at HS
          go_wp2_with fail
          refine (HS.out _ HB.out).mono ?_
          rintro e w3 ⟨he, b3⟩
          have HB3 := Lib.hid (HB.out.trans (b3.mono HB.out.size))
          have HF3 := Lib.hid (HF.out.below b3)
          clear b3 HB HF HS c0 c1 c2 c3 c4 s0 s1 s2 s3 s4
          cases hq : okFm k' x1 x2 x3 f D with
          | true =>
            rw [hq] at he
            subst he
            have HVn := Lib.hid (HVt.out hq)
            clear hq
            go_wp2_with fail
            go_roundw
            case rel => exact ⟨j + 1, by omega, by first | rfl | go_num, HVn, HB3, HF3⟩
            case measure => simp [intOf]; omega
          | false =>
            rw [hq] at he
            subst he
            have HVn := Lib.hid (HVf.out hq)
            clear hq
            go_wp2_with fail
            go_ret
            exact ⟨by rw [HE.out, HVn.out, Bool.and_false]; rfl, HB3.out⟩
        · obtain rfl : j = n := by omega
          have HVn : Hid (allV D g = true) := Lib.hid (by rw [← HV.out, HN.out]; rfl)
          go_wp2_with fail
          all_goals
            go_ret
            refine ⟨?_, HB.out⟩
            rw [HE.out, HVn.out, Bool.and_true]
            first
              | (have hh : decide (a = 0 ∧ b = 0 ∧ c = 0) = true := decide_eq_true ⟨by assumption, by assumption, by assumption⟩
                 rw [hh]; rfl)
              | (have hh : decide (a = 0 ∧ b = 0 ∧ c = 0) = false := decide_eq_false (fun h => absurd h.1 (by assumption))
                 rw [hh]; rfl)
              | (have hh : decide (a = 0 ∧ b = 0 ∧ c = 0) = false := decide_eq_false (fun h => absurd h.2.1 (by assumption))
                 rw [hh]; rfl)
              | (have hh : decide (a = 0 ∧ b = 0 ∧ c = 0) = false := decide_eq_false (fun h => absurd h.2.2 (by assumption))
                 rw [hh]; rfl)
theorem vs_any (g : FL) (IH : ∀ g' : FL, g'.sz < g.sz → VsOk g') : VsOk g := by
  intro k a b c v w d h hd
  by_cases hno : ¬ ((k = 1 ∧ g.len = 0) ∨ (k = 2 ∧ g.len ≤ 6) ∨ ((k = 3 ∨ k = 4 ∨ k = 5) ∧ g.len = 2) ∨ (k = 6 ∧ g.len = 1)) ∨ (0 < g.len ∧ d = 0)
  · exact vs_no g k a b c v w d h hd hno
  · by_cases h1 : k = 1
    · subst h1; exact vs_sym g a b c v w d h hd (by omega)
    · exact vs_row g IH k a b c v w d h hd (by omega) (by omega)
theorem vsOk_all : ∀ (n : Nat) (g : FL), g.sz < n → VsOk g := by
  intro n
  induction n with
  | zero => intro g h; omega
  | succ n ih => intro g h; exact vs_any g (fun g' h' => ih g' (by omega))
theorem svalidFm_any (g : FL) (k a b c : Int) (v : Value) (w : World) (h : Kids AllS w v g) :
    Calls Try.prog 12 #[fmV k a b c v] w fun e w' => e = .returned (.bool (okFm k a b c g 6)) ∧ Below w.heap.size w w' := by
  obtain ⟨ad, cap, rfl, _⟩ := h.cells
  have HA : Hid (Below w.heap.size w (w.alloc (.cells #[.int .i64 k, .int .i64 a, .int .i64 b, .int .i64 c, .slice ad g.len cap] 32))) := Lib.hid ((Below.refl _ _).alloc (Nat.le_refl _) _)
  have HK := Lib.hid (vsOk_all _ g (Nat.lt_succ_self _) k a b c _ _ 6 (h.below HA.out) (Nat.le_refl _))
  clear h
  unfold fmV at HK ⊢
  go_enter Try.func12, Try.ntmps12
  go_wp2_with fail
  refine HK.out.mono ?_
  rintro e w1 ⟨rfl, b1⟩
  go_wp2_with fail
  go_ret
  exact ⟨rfl, HA.out.trans (b1.mono HA.out.size)⟩
end Go.Proofs.Ytdloeiaaokhniaa
