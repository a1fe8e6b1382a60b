/- The smallest height, by the program and by the reference. -/
import Derived.Test.YtncbllhgkkkhoaaBal
import Derived.Shelf.Abstract
namespace Go.Proofs.Ytncbllhgkkkhoaa
open Go.RowKit
set_option maxHeartbeats 1000000
set_option maxRecDepth 100000

theorem sumOf_any (v : Value) (L : List Int) (w : World) (hs : SlI w v L) (hl : L.length ≤ 1000000) (hb : ∀ k, k < L.length → 0 ≤ L.getD k 0 ∧ L.getD k 0 ≤ 1000000) :
    Calls Try.prog 35 #[v] w fun e w' => e = .returned (.int .i64 (sumL L)) ∧ w = w' := by
  have HW := Lib.hid hs
  obtain ⟨a, cap, rfl, h2, h3, _⟩ := hs
  unfold maxLen at h3
  have HC : Hid (∀ k, k < L.length → ∃ b off, a = some ⟨b, off, none⟩ ∧ b < w.heap.size ∧ ∀ j, j < L.length → w.cell? ⟨b, off + j, none⟩ = some (.int .i64 (L.getD j 0))) := fun k hk => HW.out.cells (by omega)
  have HK := Lib.hid hb
  have HE : Hid (sumL L = sumTo L L.length) := rfl
  have HSt : Hid (∀ k, sumTo L (k + 1) = sumTo L k + L.getD k 0) := fun k => rfl
  clear HW hb
  generalize hn : L.length = n at *
  clear hn
  go_enter Try.func35, Try.ntmps35
  go_wp2_with fail
  go_loop [3, 8] (fun s i => ∃ k : Nat, k ≤ n ∧ i = .int .i64 k ∧ s = .int .i64 (sumTo L k) ∧ 0 ≤ sumTo L k ∧ sumTo L k ≤ k * 1000000) (fun _ i => n - (intOf i).toNat)
  case atStart => exact ⟨0, by omega, rfl, rfl, by simp [sumTo], by simp [sumTo]⟩
  case round =>
    obtain ⟨k, hk, rfl, rfl, s0, s1⟩ := hrel
    by_cases hlt : k < n
    · obtain ⟨b, off, rfl, hb, hc⟩ := HC.out k hlt
      have c0 := hc k hlt
      have hx := HK.out k hlt
      have HT := Lib.hid (HSt.out k)
      clear hc
      generalize L.getD k 0 = x at *
      generalize hsm : sumTo L k = s at *
      have HSm := Lib.hid hsm
      clear hsm
      go_wp2_with fail
      go_round
      case rel => exact ⟨k + 1, by omega, by go_num, by rw [HT.out], by rw [HT.out]; omega, by rw [HT.out]; omega⟩
      case measure => simp [intOf]; omega
    · obtain rfl : k = n := by omega
      go_wp2_with fail
      go_ret
      rw [HE.out]
      exact ⟨rfl, rfl⟩

theorem balI_bad {L : List Int} {c : Int} (h : okH L = false) : balI L c = -1 := by
  unfold balI; rw [if_neg (fun x => by rw [h] at x; cases x.1)]
theorem balI_out {L : List Int} {c : Int} (h : ¬ (1 ≤ c ∧ c ≤ 8)) : balI L c = -1 := by
  unfold balI; rw [if_neg (fun x => h x.2.1)]
theorem balI_high {L : List Int} {c : Int} (h : ¬ sumL L ≤ 10000) : balI L c = -1 := by
  unfold balI; rw [if_neg (fun x => h x.2.2)]
theorem balI_good {L : List Int} {c : Nat} (h : okH L = true) (h1 : 1 ≤ c) (h8 : c ≤ 8) (hs : sumL L ≤ 10000) : balI L c = balN L c := by
  unfold balI; rw [if_pos ⟨h, by omega, hs⟩]; rfl

theorem balancedHeight_any (v : Value) (L : List Int) (c : Int) (w : World) (hs : SlI w v L) :
    Calls Try.prog 21 #[v, .int .i64 c] w fun e w' => e = .returned (.int .i64 (balI L c)) ∧ Below w.heap.size w w' := by
  have HA : Hid (∀ W, Below w.heap.size w W → SlI W v L) := fun W hb => hs.below hb
  have hB0 : ∀ T1 T2, Below w.heap.size w ((w.alloc (.cells #[v] T1)).alloc (.cells #[.int .i64 c] T2)) := fun T1 T2 => ((Below.refl _ _).alloc (Nat.le_refl _) _).alloc (by simp) _
  have hmf : ∀ (fn : Fn) (first cap : Array Value) (w : World), (Instr.makeFunc fn first cap).run Try.prog w = .ok (.func fn first cap) w := fun _ _ _ _ => rfl
  have hsv := hs
  obtain ⟨av, cv, rfl, _, _, _⟩ := hsv
  have HS : Hid (∀ T1 T2, SlI ((w.alloc (.cells #[.slice av L.length cv] T1)).alloc (.cells #[.int .i64 c] T2)) (.slice av L.length cv) L) := fun T1 T2 => HA.out _ (hB0 T1 T2)
  have HB0 := Lib.hid hB0
  clear hs HA hB0
  cases hok : okH L
  · have HE := Lib.hid (balI_bad (c := c) hok)
    go_enter Try.func21, Try.ntmps21
    go_wp2_with (first | (go_at_call 33; refine (validHeights_any _ L _ (HS.out _ _)).mono ?_; rintro e w' ⟨rfl, rfl⟩))
    go_ret
    rw [HE.out]
    exact ⟨rfl, HB0.out _ _⟩
  · have hk := (okH_at hok)
    have HSum := Lib.hid (show ∀ k, k < L.length → 0 ≤ L.getD k 0 ∧ L.getD k 0 ≤ 1000000 from fun k h => by have := hk.2 k h; omega)
    have hl := hk.1
    have HOk := Lib.hid hok
    clear hk
    by_cases hc : 1 ≤ c ∧ c ≤ 8
    · have hd : decide (1 ≤ c ∧ c ≤ 8) = true := by simpa using hc
      by_cases hsm : sumL L ≤ 10000
      · obtain ⟨m, rfl⟩ := Int.eq_ofNat_of_zero_le (show 0 ≤ c by omega)
        have HE := Lib.hid (balI_good (c := m) hok (by omega) (by omega) hsm)
        have HM := Lib.hid (fun a b hab hg => goodH_mono (L := L) hok (c := m) (h := a) (h' := b) hab hg)
        have hgt : decide ((10000 : Int) < sumL L) = false := by simp; omega
        have eg : ∀ args w, (callFunc 45 args).run Try.prog w = .ok (.enter 45 args) w := enters_of Try.func45 (by kernel_rfl) rfl
        have EG := Lib.hid eg
        clear eg
        go_enter Try.func21, Try.ntmps21
        go_wp2_with (first | (go_at_call 33; refine (validHeights_any _ L _ (HS.out _ _)).mono ?_; rintro e w' ⟨rfl, rfl⟩) | (go_at_call 38; refine (within_any _ _ _ _).mono ?_; rintro e w' ⟨rfl, rfl⟩) | (go_at_call 35; refine (sumOf_any _ L _ (HS.out _ _) (by omega) HSum.out).mono ?_; rintro e w' ⟨rfl, rfl⟩))
        refine (search_any _ #[.pointer (some ⟨w.heap.size, 0, none⟩), .pointer (some ⟨w.heap.size + 1, 0, none⟩)] 10000 (goodH L m) _ EG.out (by omega) (fun W hb i hi => ?_) HM.out).mono ?_
        · have hsz := hb.size
          rw [World.size_alloc, World.size_alloc] at hsz
          exact suffices_any w.heap.size _ L m i W ((HS.out _ _).below hb) HOk.out (by omega) (by omega)
            ((hb.cell (p := ⟨w.heap.size, 0, none⟩) (by simp; omega)).trans (by simp [go_sem]))
            ((hb.cell (p := ⟨w.heap.size + 1, 0, none⟩) (by simp)).trans (by simp [go_sem])) (by omega)
        · rintro e w1 ⟨rfl, b1⟩
          have HB1 : Hid (Below w.heap.size w w1) := Lib.hid ((HB0.out _ _).trans (b1.mono (HB0.out _ _).size))
          clear b1
          go_wp2_with fail
          go_ret
          rw [HE.out]
          exact ⟨rfl, HB1.out⟩
      · have HE := Lib.hid (balI_high (c := c) hsm)
        have hgt : decide ((10000 : Int) < sumL L) = true := by simp; omega
        have hsb := sumTo_okH hok L.length (Nat.le_refl _)
        change 0 ≤ sumL L ∧ sumL L ≤ 40000 at hsb
        go_enter Try.func21, Try.ntmps21
        go_wp2_with (first | (go_at_call 33; refine (validHeights_any _ L _ (HS.out _ _)).mono ?_; rintro e w' ⟨rfl, rfl⟩) | (go_at_call 38; refine (within_any _ _ _ _).mono ?_; rintro e w' ⟨rfl, rfl⟩) | (go_at_call 35; refine (sumOf_any _ L _ (HS.out _ _) (by omega) HSum.out).mono ?_; rintro e w' ⟨rfl, rfl⟩))
        go_ret
        rw [HE.out]
        exact ⟨rfl, HB0.out _ _⟩
    · have hd : decide (1 ≤ c ∧ c ≤ 8) = false := by simpa using hc
      have HE := Lib.hid (balI_out (L := L) hc)
      clear hc
      go_enter Try.func21, Try.ntmps21
      go_wp2_with (first | (go_at_call 33; refine (validHeights_any _ L _ (HS.out _ _)).mono ?_; rintro e w' ⟨rfl, rfl⟩) | (go_at_call 38; refine (within_any _ _ _ _).mono ?_; rintro e w' ⟨rfl, rfl⟩))
      go_ret
      rw [HE.out]
      exact ⟨rfl, HB0.out _ _⟩
end Go.Proofs.Ytncbllhgkkkhoaa
