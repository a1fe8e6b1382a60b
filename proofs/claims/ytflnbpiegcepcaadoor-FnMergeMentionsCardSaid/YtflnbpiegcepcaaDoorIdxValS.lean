/- Valid indexes, by the reference. -/
import Derived.Test.YtflnbpiegcepcaaDoorPag
import Derived.Test.YtflnbpiegcepcaaDoorIdxOk
import Derived.Test.YtflnbpiegcepcaaDoorIdxWord
import Derived.Test.YtflnbpiegcepcaaDoorIdxSrch
import Derived.Deep.RegionHeld3
import Derived.BigQuiet
namespace Go.Proofs.YtflnbpiegcepcaaDoor
open Go.RowKit
set_option maxHeartbeats 4000000
set_option maxRecDepth 100000
set_option linter.unusedVariables false

theorem bel_drewN' {B : Nat} {a w : World} (h : Below B a w) (n : Nat) : Below B a (w.drewN n) := ⟨h.os, h.tape, h.output, h.size, h.block⟩
theorem svalidIndex_any (v : Value) (E : List Ent) (w : World) (h : SlE w v E) (hz : ∀ i, i < E.length → (ew E i).size ≤ maxLen) :
    Calls Tryd.prog 50 #[v] w fun e w' => e = .returned (.bool (okI E)) ∧ ∃ q, w' = w.drewN q := by
  have HS := Lib.hid h
  have HZ := Lib.hid hz
  obtain ⟨a, cap, rfl, hc, hm⟩ := h.shape
  unfold maxLen at hm
  have HBad := Lib.hid (fun i (hi : i < E.length) (hn : ¬ okEnt E i) => okI_bad hi hn)
  have HGood := Lib.hid (okI_end E)
  clear h hz
  obtain ⟨n, hn⟩ : ∃ n, E.length = n := ⟨_, rfl⟩
  rw [hn] at HS HZ HBad HGood hc ⊢
  clear hn
  generalize okI E = ok at *
  go_enter Tryd.func50, Tryd.ntmps50
  go_wp2_with fail
  go_loopw [3] (fun i wr => ∃ k : Nat, k ≤ n ∧ i = .int .i64 k ∧ Hid (∃ q, wr = w.drewN q) ∧ Hid (∀ j, j < k → okEnt E j)) (fun i _ => n - (intOf i).toNat)
  case atStart => exact ⟨0, by omega, rfl, Lib.hid ⟨0, rfl⟩, Lib.hid (fun j hj => by omega)⟩
  case round =>
    obtain ⟨k, hk, rfl, HQ, HK⟩ := hrel
    by_cases hlt : k < n
    · have hG : SlE wr (.slice a n cap) E := by obtain ⟨q, e⟩ := HQ.out; rw [e]; exact HS.out.drewN q
      obtain ⟨b, off, rfl, hbl, hat⟩ := hG.at (by omega)
      obtain ⟨vp, c0, c1, hsl⟩ := hat k hlt
      have HNext : Hid (okEnt E k → ∀ i, i < k + 1 → okEnt E i) := Lib.hid (fun h i hi => by
        by_cases e : i = k
        · subst e; exact h
        · exact HK.out i (by omega))
      have HBk := Lib.hid (HBad.out k hlt)
      have HVW := Lib.hid (fun w' => isWord_any (ew E k) w' (HZ.out k hlt))
      have HVQ : Hid (∀ (m : Nat), Calls Tryd.prog 79 #[.string (ew E k)] (wr.drewN m) fun e w'' => e = .returned (.bool (okW (ew E k))) ∧ ∃ q, w'' = (wr.drewN m).drewN q) := Lib.hid (fun m => (HVW.out (wr.drewN m)).mono fun _ _ ⟨he, hw⟩ => ⟨he, 0, hw.symm⟩)
      have HPQ : Hid (∀ (m : Nat), Calls Tryd.prog 33 #[vp] (wr.drewN m) fun e w'' => e = .returned (.bool (okPg (ep E k))) ∧ ∃ q, w'' = (wr.drewN m).drewN q) := Lib.hid (fun m => (svalidPages_any vp (ep E k) (wr.drewN m) (hsl.drewN m)).mono (by rintro e w5 ⟨j, rfl, rfl⟩; exact ⟨rfl, j, rfl⟩))
      unfold okEnt at HNext HBk
      obtain ⟨aa, cc, rfl⟩ := SlI.shape hsl
      have HDr : Hid (∀ q, ∃ q', wr.drewN q = w.drewN q') := Lib.hid (fun q => by obtain ⟨q0, e⟩ := HQ.out; exact ⟨q0 + q, by rw [e, World.drewN_drewN]⟩)
      clear HVW hG hsl HQ HK
      cases hw : okW (ew E k) with
      | false =>
        rw [hw] at HVQ
        have HN := HBk.out (fun h => by rw [hw] at h; cases h.1)
        subst HN
        clear HBk HNext hw hat HPQ
        generalize ew E k = s at *
        generalize (ep E k).length = l at *
        go_wp2_with fail
        go_quiet ((go_at_call 79; exact Calls.quiet_of (HVQ.out _)))
        go_wp2_with fail
        go_ret
        exact ⟨rfl, HDr.out _⟩
      | true =>
      cases hp : okPg (ep E k) with
      | false =>
        rw [hw] at HVQ
        rw [hp] at HPQ
        have HN := HBk.out (fun h => by rw [hp] at h; cases h.2.1)
        subst HN
        clear HBk HNext hw hp hat
        generalize ew E k = s at *
        generalize (ep E k).length = l at *
        go_wp2_with fail
        go_quiet ((first | (go_at_call 79; exact Calls.quiet_of (HVQ.out _)) | (go_at_call 33; exact Calls.quiet_of (HPQ.out _))))
        go_wp2_with fail
        go_ret
        exact ⟨rfl, HDr.out _⟩
      | true =>
      rw [hw] at HVQ
      rw [hp] at HPQ
      by_cases hl : ep E k = []
      · have HN := HBk.out (fun h => h.2.2.1 hl)
        subst HN
        have hl0 : (((ep E k).length : Int) == 0) = true := by rw [hl]; rfl
        clear HBk HNext hw hp hat hl
        generalize ew E k = s at *
        generalize (ep E k).length = l at *
        go_wp2_with fail
        go_quiet ((first | (go_at_call 79; exact Calls.quiet_of (HVQ.out _)) | (go_at_call 33; exact Calls.quiet_of (HPQ.out _))))
        go_wp2_with fail
        go_ret
        exact ⟨rfl, HDr.out _⟩
      · have hl0 : (((ep E k).length : Int) == 0) = false := by
          have : (ep E k).length ≠ 0 := by simpa using hl
          rw [beq_eq_false_iff_ne]; omega
        by_cases hk0 : 0 < k
        · obtain ⟨j, rfl⟩ : ∃ j, k = j + 1 := ⟨k - 1, by omega⟩
          obtain ⟨vq, e0, _, _⟩ := hat j (by omega)
          have hj1 : ((j + 1 : Nat) : Int) - 1 = (j : Int) := by omega
          have hj2 : IntKind.i64.wrap (((j + 1 : Nat) : Int) - 1) = (j : Int) := by rw [hj1]; exact IntWalk.i64_in _ (by omega)
          rw [Nat.add_sub_cancel] at HNext HBk
          cases hlw : ltW (ew E j) (ew E (j + 1)) with
          | true =>
            have HN := Lib.hid (HNext.out ⟨hw, hp, hl, fun _ => hlw⟩)
            have hle : Op.bytesLess (ew E (j + 1)).toList (ew E j).toList = false := ltW_asymm hlw
            have hle2 : ((ew E (j + 1)).toList == (ew E j).toList) = false := by
              rw [beq_eq_false_iff_ne]; exact fun e => ltW_ne hlw (toList_inj e).symm
            clear HBk HNext hw hp hat hl hlw
            generalize ew E (j + 1) = s at *
            generalize ew E j = t at *
            generalize (ep E (j + 1)).length = l at *
            go_wp2_with fail
            go_quiet ((first | (go_at_call 79; exact Calls.quiet_of (HVQ.out _)) | (go_at_call 33; exact Calls.quiet_of (HPQ.out _))))
            go_wp2_with fail
            go_roundw
            case rel => exact ⟨j + 1 + 1, by omega, by go_num, Lib.hid (HDr.out _), HN⟩
            case measure => simp [intOf]; omega
          | false =>
            have HN := HBk.out (fun h => by have := h.2.2.2 (by omega); rw [hlw] at this; cases this)
            subst HN
            by_cases he : (ew E (j + 1)).toList = (ew E j).toList
            · have hle : Op.bytesLess (ew E (j + 1)).toList (ew E j).toList = false := by rw [he]; exact bl_irrefl _
              have hle2 : ((ew E (j + 1)).toList == (ew E j).toList) = true := by rw [he]; simp
              clear HBk HNext hw hp hat hl hlw he
              generalize ew E (j + 1) = s at *
              generalize ew E j = t at *
              generalize (ep E (j + 1)).length = l at *
              go_wp2_with fail
              go_quiet ((first | (go_at_call 79; exact Calls.quiet_of (HVQ.out _)) | (go_at_call 33; exact Calls.quiet_of (HPQ.out _))))
              go_wp2_with fail
              go_ret
              exact ⟨rfl, HDr.out _⟩
            · have hle : Op.bytesLess (ew E (j + 1)).toList (ew E j).toList = true := by
                cases e : Op.bytesLess (ew E (j + 1)).toList (ew E j).toList with
                | true => rfl
                | false => exact absurd (bl_tri _ _ e hlw) he
              have hle2 : ((ew E (j + 1)).toList == (ew E j).toList) = false := by rw [beq_eq_false_iff_ne]; exact he
              clear HBk HNext hw hp hat hl hlw he
              generalize ew E (j + 1) = s at *
              generalize ew E j = t at *
              generalize (ep E (j + 1)).length = l at *
              go_wp2_with fail
              go_quiet ((first | (go_at_call 79; exact Calls.quiet_of (HVQ.out _)) | (go_at_call 33; exact Calls.quiet_of (HPQ.out _))))
              go_wp2_with fail
              go_ret
              exact ⟨rfl, HDr.out _⟩
        · obtain rfl : k = 0 := by omega
          rw [Nat.zero_mul, Nat.add_zero] at c0 c1
          have HN := Lib.hid (HNext.out ⟨hw, hp, hl, fun h => absurd h (by omega)⟩)
          clear HBk HNext hw hp hat hl
          generalize ew E 0 = s at *
          generalize (ep E 0).length = l at *
          go_wp2_with fail
          go_quiet ((first | (go_at_call 79; exact Calls.quiet_of (HVQ.out _)) | (go_at_call 33; exact Calls.quiet_of (HPQ.out _))))
          go_wp2_with fail
          go_roundw
          case rel => exact ⟨0 + 1, by omega, by go_num, Lib.hid (HDr.out _), HN⟩
          case measure => simp [intOf]; omega
    · obtain rfl : k = n := by omega
      have HN := HGood.out HK.out
      subst HN
      clear HK HGood HBad
      go_wp2_with fail
      go_ret
      exact ⟨rfl, HQ.out⟩
end Go.Proofs.YtflnbpiegcepcaaDoor
