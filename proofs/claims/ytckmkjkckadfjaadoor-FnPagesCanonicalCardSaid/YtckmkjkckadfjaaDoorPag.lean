/- Pages in order, and the reference's text of them. -/
import Derived.Test.YtckmkjkckadfjaaDoorPagPlain
import Derived.Test.YtckmkjkckadfjaaDoorDecimal
import Derived.Test.YtckmkjkckadfjaaDoorRange
namespace Go.Proofs.YtckmkjkckadfjaaDoor
open Go.RowKit
set_option maxHeartbeats 2000000
set_option maxRecDepth 100000
set_option linter.unusedVariables false

theorem validPages_any (v : Value) (L : List Int) (w : World) (h : SlI w v L) :
    Calls Tryd.prog 18 #[v] w fun e w' => e = .returned (.bool (okPg L)) ∧ w' = w := by
  have HU := Lib.hid h
  obtain ⟨a, cap, rfl, h1, h2, _⟩ := h
  unfold maxLen at h2
  have HBad := Lib.hid (fun i (hi : i < L.length) h => okPg_bad hi h)
  have HOk : Hid (∀ b, (∀ i, i < L.length → okAt L i) → b = decide ((L.length : Int) ≤ 40) → okPg L = b) := Lib.hid (fun b h e => by
    subst e
    by_cases hl : L.length ≤ 40
    · rw [okPg_of hl h, decide_eq_true (by omega)]
    · rw [okPg_long hl, decide_eq_false (by omega)])
  have HP : Hid (∀ i, pe L i = L.getD i 0) := Lib.hid (fun _ => rfl)
  generalize okPg L = ok at *
  obtain ⟨n, hn⟩ : ∃ n, L.length = n := ⟨_, rfl⟩
  rw [hn] at HU HBad HOk h1 ⊢
  clear hn
  go_enter Tryd.func18, Tryd.ntmps18
  go_wp2_with fail
  go_loopw [3, 8] (fun l i wr => ∃ k : Nat, k ≤ n ∧ i = .int .i64 k ∧ l = .int .i64 (if k = 0 then 0 else pe L (k - 1)) ∧ wr = w ∧ Hid (∀ i, i < k → okAt L i)) (fun _ i _ => n - (intOf i).toNat)
  case atStart => exact ⟨0, by omega, rfl, rfl, rfl, Lib.hid (fun j hj => by omega)⟩
  case round =>
    obtain ⟨k, hk, rfl, rfl, rfl, HK⟩ := hrel
    by_cases hlt : k < n
    · obtain ⟨b, off, rfl, _, h4⟩ := HU.out.cells (by omega)
      have c1 := h4 k hlt
      rw [← HP.out] at c1
      clear h4
      have hiff : okAt L k ↔ (if k = 0 then 0 else pe L (k - 1)) < pe L k ∧ pe L k ≤ 3999 := by
        unfold okAt
        by_cases h0 : k = 0
        · rw [if_pos h0]; subst h0
          constructor
          · rintro ⟨a, b, _⟩; exact ⟨by omega, b⟩
          · rintro ⟨a, b⟩; exact ⟨by omega, b, fun h => by omega⟩
        · rw [if_neg h0]
          have hp := HK.out (k - 1) (by omega)
          unfold okAt at hp
          constructor
          · rintro ⟨a, b, c⟩; exact ⟨c (by omega), b⟩
          · rintro ⟨a, b⟩; exact ⟨by omega, b, fun h => a⟩
      have HNext : Hid (okAt L k → ∀ i, i < k + 1 → okAt L i) := Lib.hid (fun h i hi => by
        by_cases e : i = k
        · subst e; exact h
        · exact HK.out i (by omega))
      have HBk := Lib.hid (HBad.out k hlt)
      have HEq : Hid (pe L k = if k + 1 = 0 then 0 else pe L (k + 1 - 1)) := Lib.hid (by rw [if_neg (by omega), Nat.add_sub_cancel])
      rw [hiff] at HNext HBk
      clear hiff HK HOk HBad
      generalize (if k = 0 then 0 else pe L (k - 1)) = y at *
      generalize hx : pe L k = x at *
      by_cases hlx : y < x
      · have hd : decide (x ≤ y) = false := decide_eq_false (by omega)
        by_cases hx9 : x ≤ 3999
        · have hd2 : decide (3999 < x) = false := decide_eq_false (by omega)
          have HN := Lib.hid (HNext.out ⟨hlx, hx9⟩)
          clear HNext HBk hx
          go_wp2_with fail
          go_roundw
          case rel => exact ⟨k + 1, by omega, by go_num, by rw [HEq.out], trivial, HN⟩
          case measure => simp [intOf]; omega
        · have hd2 : decide (3999 < x) = true := decide_eq_true (by omega)
          have HN := HBk.out (fun h => hx9 h.2)
          subst HN
          clear HNext HBk hx
          go_wp2_with fail
          go_ret
          exact ⟨rfl, rfl⟩
      · have hd : decide (x ≤ y) = true := decide_eq_true (by omega)
        have HN := HBk.out (fun h => hlx h.1)
        subst HN
        clear HNext HBk hx
        go_wp2_with fail
        go_ret
        exact ⟨rfl, rfl⟩
    · obtain rfl : k = n := by omega
      have HN := HOk.out _ HK.out rfl
      subst HN
      clear HOk HBad HK HP
      generalize (if k = 0 then 0 else pe L (k - 1)) = y at *
      go_wp2_with fail
      go_ret
      exact ⟨rfl, rfl⟩

theorem quiet_inRangeP (n a b : Int) (w : World) (m : Nat) : Calls Tryd.prog 35 #[.int .i64 n, .int .i64 a, .int .i64 b] (w.drewN m) fun e w'' => e = .returned (.bool (decide (a ≤ n ∧ n ≤ b))) ∧ ∃ q, w'' = w.drewN q :=
  (inRange_any n a b _).mono fun _ _ ⟨he, hw⟩ => ⟨he, m, hw.symm⟩
theorem svalidPages_any (v : Value) (L : List Int) (w : World) (h : SlI w v L) :
    Calls Tryd.prog 21 #[v] w (Same w (okPg L)) := by
  have HU := Lib.hid h
  obtain ⟨a, cap, rfl, h1, h2, _⟩ := h
  unfold maxLen at h2
  have HBad := Lib.hid (fun i (hi : i < L.length) h => okPg_bad hi h)
  have HOk : Hid (∀ b, (∀ i, i < L.length → okAt L i) → b = decide ((L.length : Int) ≤ 40) → okPg L = b) := Lib.hid (fun b h e => by
    subst e
    by_cases hl : L.length ≤ 40
    · rw [okPg_of hl h, decide_eq_true (by omega)]
    · rw [okPg_long hl, decide_eq_false (by omega)])
  have HP : Hid (∀ i, pe L i = L.getD i 0) := Lib.hid (fun _ => rfl)
  generalize okPg L = ok at *
  obtain ⟨n, hn⟩ : ∃ n, L.length = n := ⟨_, rfl⟩
  rw [hn] at HU HBad HOk h1 ⊢
  clear hn
  go_enter Tryd.func21, Tryd.ntmps21
  go_wp2_with fail
  go_loopw [3] (fun i wr => ∃ k : Nat, k ≤ n ∧ i = .int .i64 k ∧ (∃ q, Hid (wr = w.drewN q)) ∧ Hid (∀ i, i < k → okAt L i)) (fun i _ => n - (intOf i).toNat)
  case atStart => exact ⟨0, by omega, rfl, ⟨0, Lib.hid rfl⟩, Lib.hid (fun j hj => by omega)⟩
  case round =>
    obtain ⟨k, hk, rfl, ⟨q, HQ⟩, HK⟩ := hrel
    by_cases hlt : k < n
    · have hU : SlI wr (.slice a n cap) L := by rw [HQ.out]; exact HU.out.drewN q
      obtain ⟨b, off, rfl, _, h4⟩ := hU.cells (by omega)
      have c1 := h4 k hlt
      rw [← HP.out] at c1
      have HNext : Hid (okAt L k → ∀ i, i < k + 1 → okAt L i) := Lib.hid (fun h i hi => by
        by_cases e : i = k
        · subst e; exact h
        · exact HK.out i (by omega))
      have HBk := Lib.hid (HBad.out k hlt)
      have HRet : Hid (∀ m, ∃ j, ok = ok ∧ wr.drewN m = w.drewN j) := Lib.hid (fun m => ⟨q + m, rfl, by rw [HQ.out, World.drewN_drewN]⟩)
      unfold okAt at HNext HBk
      clear HK HOk HBad hU
      by_cases hin : 1 ≤ pe L k ∧ pe L k ≤ 3999
      · have hd : decide (1 ≤ pe L k ∧ pe L k ≤ 3999) = true := decide_eq_true hin
        by_cases hk0 : 0 < k
        · obtain ⟨j, rfl⟩ : ∃ j, k = j + 1 := ⟨k - 1, by omega⟩
          have c2 := h4 j (by omega)
          rw [← HP.out] at c2
          have hj1 : ((j + 1 : Nat) : Int) - 1 = (j : Int) := by omega
          have hj2 : IntKind.i64.wrap (((j + 1 : Nat) : Int) - 1) = (j : Int) := by rw [hj1]; exact IntWalk.i64_in _ (by omega)
          rw [Nat.add_sub_cancel] at HNext HBk
          clear h4
          generalize pe L (j + 1) = x at *
          generalize pe L j = y at *
          by_cases hyx : y < x
          · have hd2 : decide (x ≤ y) = false := decide_eq_false (by omega)
            have HN := Lib.hid (HNext.out ⟨hin.1, hin.2, fun _ => hyx⟩)
            clear HNext HBk HRet hin
            go_wp2_with fail
            go_quiet ((go_at_call 35; exact quiet_inRangeP _ _ _ _ _))
            go_wp2_with fail
            go_roundw
            case rel => exact ⟨j + 1 + 1, by omega, by go_num, ⟨q + nq, Lib.hid (by rw [HQ.out, World.drewN_drewN])⟩, HN⟩
            case measure => simp [intOf]; omega
          · have hd2 : decide (x ≤ y) = true := decide_eq_true (by omega)
            have HN := HBk.out (fun h => hyx (h.2.2 (by omega)))
            subst HN
            clear HNext HBk hin
            go_wp2_with fail
            go_quiet ((go_at_call 35; exact quiet_inRangeP _ _ _ _ _))
            go_wp2_with fail
            go_ret
            obtain ⟨j, _, e⟩ := HRet.out nq
            exact ⟨j, rfl, e⟩
        · obtain rfl : k = 0 := by omega
          have HN := Lib.hid (HNext.out ⟨hin.1, hin.2, fun h => by omega⟩)
          rw [Nat.add_zero] at c1
          clear HNext HBk HRet hin h4
          generalize pe L 0 = x at *
          go_wp2_with fail
          go_quiet ((go_at_call 35; exact quiet_inRangeP _ _ _ _ _))
          go_wp2_with fail
          go_roundw
          case rel => exact ⟨0 + 1, by omega, by go_num, ⟨q + nq, Lib.hid (by rw [HQ.out, World.drewN_drewN])⟩, HN⟩
          case measure => simp [intOf]; omega
      · have hd : decide (1 ≤ pe L k ∧ pe L k ≤ 3999) = false := decide_eq_false hin
        have HN := HBk.out (fun h => hin ⟨h.1, h.2.1⟩)
        subst HN
        clear HNext HBk hin h4
        generalize pe L k = x at *
        go_wp2_with fail
        go_quiet ((go_at_call 35; exact quiet_inRangeP _ _ _ _ _))
        go_wp2_with fail
        go_ret
        obtain ⟨j, _, e⟩ := HRet.out nq
        exact ⟨j, rfl, e⟩
    · obtain rfl : k = n := by omega
      have HN := HOk.out _ HK.out rfl
      subst HN
      clear HOk HBad HK HP
      go_wp2_with fail
      go_ret
      exact ⟨q, rfl, HQ.out⟩
end Go.Proofs.YtckmkjkckadfjaaDoor
