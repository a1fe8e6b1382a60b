/- Holding the marks of an index; indexes that read alike are equal. -/
import Derived.Test.YtflnbpiegcepcaaDoorIdxMark
namespace Go.Proofs.YtflnbpiegcepcaaDoor
open Go.RowKit
set_option maxHeartbeats 4000000
set_option maxRecDepth 100000
set_option linter.unusedVariables false

theorem heldEntryS_any (v : Value) (E : List Ent) (k : Nat) (w : World) (hk : 0 < k) (hkn : k + mN E ≤ 100000000) (h : SlE w v (mE k E)) :
    Calls Tryd.prog 32 #[v, .int .i64 k] w fun e w' => e = .returned (.int .i64 (k + mN E : Nat)) ∧ Below w.heap.size w w' := by
  have HS := Lib.hid h
  obtain ⟨a, cap, rfl, hc, hm⟩ := h.shape
  unfold maxLen at hm
  have hl := mE_len k E
  rw [hl] at hc HS ⊢
  have HLe := Lib.hid (fun i => mk0_le k E i)
  have HSucc := Lib.hid (fun i (h : i < E.length) => (⟨mk0_succ k E i h, mE_at k E i h⟩ : _ ∧ _))
  have HEnd := Lib.hid (mk0_end k E)
  have HK0 : Hid (mk0 k E 0 = k) := Lib.hid (by unfold mk0; rw [List.take_zero, mN]; rfl)
  have HKn := Lib.hid hkn
  clear h hl hkn
  obtain ⟨n, hn⟩ : ∃ n, E.length = n := ⟨_, rfl⟩
  rw [hn] at HS HSucc HEnd hc ⊢
  clear hn
  go_enter Tryd.func32, Tryd.ntmps32
  go_wp2_with fail
  go_loopw [1, 5] (fun a i wr => ∃ (j m : Nat), j ≤ n ∧ i = .int .i64 j ∧ a = .int .i64 m ∧ Hid (m = mk0 k E j) ∧ Hid (Below w.heap.size w wr)) (fun _ i _ => n - (intOf i).toNat)
  case atStart => exact ⟨0, k, by omega, rfl, rfl, Lib.hid HK0.out.symm, Lib.hid (Below.refl _ _)⟩
  case round =>
    obtain ⟨j, m, hj, rfl, rfl, HM, HB⟩ := hrel
    have hm1 : m ≤ 100000000 := by have := HM.out; have := HLe.out j; have := HKn.out; omega
    have hm0 : 0 < m := by have := HM.out; unfold mk0 at this; omega
    by_cases hlt : j < n
    · obtain ⟨b, off, rfl, hbl, hat⟩ := HS.out.at (by omega)
      obtain ⟨vp, c0, c1, hsl⟩ := hat j hlt
      obtain ⟨s1, s2, s3⟩ := HSucc.out j hlt
      rw [s2, ← HM.out] at c0
      rw [s3, ← HM.out] at hsl
      have hml : m + 1 + (ep E j).length ≤ 100000000 := by
        have h2 := HLe.out (j + 1); have h3 := HKn.out; have h4 := HM.out
        omega
      have HM3 : Hid (m + 1 + (ep E j).length = mk0 k E (j + 1)) := Lib.hid (by rw [s1, HM.out])
      generalize ep E j = L at *
      rw [← (bcell HB.out).1 _ _ hbl] at c0 c1
      have HT := Lib.hid (fun W (hb : Below wr.heap.size wr W) => markText_any m W hm0 (by omega))
      have HC1 := Lib.hid c1
      have HC0 := Lib.hid c0
      have hblr : b < wr.heap.size := by have := HB.out.size; omega
      have HSl : Hid (∀ W, Below wr.heap.size wr W → SlI W vp (marks ((m : Int) + 1) L.length)) := Lib.hid (fun W hb => by
        have h := (hsl.below HB.out).below hb
        rwa [show ((m + 1 : Nat) : Int) = (m : Int) + 1 by omega] at h)
      obtain ⟨av, cv, hsh⟩ := SlI.shape hsl
      rw [marks_length] at hsh
      subst hsh
      clear hat hsl s1 s2 s3 HM
      have hnn : (mkT m).toList == (mkT m).toList := by simp
      generalize mkT m = tm at *
      go_wp2_with fail
      go_region_with (go_at_call 59; refine (HT.out _ (Below.refl _ _).drew).mono ?_; rintro e w1 ⟨rfl, b1⟩; have c0' := ((bcell b1).1 _ _ hblr).trans c0)
      all_goals
        have c1' := ((bcell b1).1 _ _ hblr).trans c1
        have HBw : Hid (Below w.heap.size w w1) := Lib.hid ((HB.out.drew).trans (b1.mono HB.out.size))
        have HHeld := Lib.hid (heldIntS_any (.slice av L.length cv) (m + 1) L.length w1 (by omega) (by omega) (HSl.out w1 (((Below.refl _ _).drew).trans b1)))
        clear b1 c0' c0 c1 HT
        go_wp2_with fail
        refine HHeld.out.mono ?_
        rintro e w2 ⟨rfl, rfl⟩
        have hd : decide ((m : Int) + 1 + (L.length : Int) < 0) = false := decide_eq_false (by omega)
        go_wp2_with fail
        go_roundw
        case rel => exact ⟨j + 1, m + 1 + L.length, by omega, by go_num, by rw [show (m : Int) + 1 + (L.length : Int) = ((m + 1 + L.length : Nat) : Int) by omega], HM3, HBw⟩
        case measure => simp [intOf]; omega
    · obtain rfl : j = n := by omega
      have HF : Hid (m = k + mN E) := Lib.hid (HM.out.trans HEnd.out)
      clear HM
      go_wp2_with fail
      go_ret
      exact ⟨by rw [HF.out]; rfl, HB.out⟩

theorem eqEntry_same (s : ByteArray) (u v : Value) (L : List Int) (w : World) (hu : SlI w u L) (hv : SlI w v L) :
    Calls Tryd.prog 58 #[.agg #[.string s, u], .agg #[.string s, v]] w fun e w' => e = .returned (.bool true) ∧ Below w.heap.size w w' := by
  have hA : Below w.heap.size w ((w.alloc (.cells #[.string s, u] 40)).alloc (.cells #[.string s, v] 40)) := ((Below.refl _ _).alloc (Nat.le_refl _) _).alloc (by simp) _
  have HA := Lib.hid hA
  have HE : Hid (Calls Tryd.prog 14 #[u, v] ((w.alloc (.cells #[.string s, u] 40)).alloc (.cells #[.string s, v] 40)) (Same ((w.alloc (.cells #[.string s, u] 40)).alloc (.cells #[.string s, v] 40)) true)) := Lib.hid (by
    have h := eqIntS_any u v L L _ (hu.below hA) (hv.below hA)
    rwa [decide_eq_true (rfl : L = L)] at h)
  obtain ⟨a, c, rfl⟩ := SlI.shape hu
  obtain ⟨a', c', rfl⟩ := SlI.shape hv
  have hnn : (s.toList == s.toList) = true := by simp
  clear hu hv hA
  go_enter Tryd.func58, Tryd.ntmps58
  go_wp2_with fail
  refine HE.out.mono ?_
  rintro e w' ⟨n, rfl, rfl⟩
  go_wp2_with fail
  go_ret
  exact ⟨rfl, below_drewN HA.out n⟩
theorem eqEntryS_same (u v : Value) (E : List Ent) (w : World) (hu : SlE w u E) (hv : SlE w v E) :
    Calls Tryd.prog 30 #[u, v] w fun e w' => e = .returned (.bool true) ∧ Below w.heap.size w w' := by
  have HU := Lib.hid hu
  have HV := Lib.hid hv
  obtain ⟨a, cap, rfl, h1, h2⟩ := hu.shape
  obtain ⟨a', cap', rfl, h1', h2'⟩ := hv.shape
  unfold maxLen at h2 h2'
  have hnn : ((E.length : Int) != (E.length : Int)) = false := by simp
  clear hu hv
  obtain ⟨n, hn⟩ : ∃ n, E.length = n := ⟨_, rfl⟩
  rw [hn] at HU HV h1 h1' hnn ⊢
  clear hn
  go_enter Tryd.func30, Tryd.ntmps30
  go_wp2_with fail
  go_loopw [5] (fun i wr => ∃ k : Nat, k ≤ n ∧ i = .int .i64 k ∧ Hid (Below w.heap.size w wr)) (fun i _ => n - (intOf i).toNat)
  case atStart => exact ⟨0, by omega, rfl, Lib.hid (Below.refl _ _)⟩
  case round =>
    obtain ⟨k, hk, rfl, HB⟩ := hrel
    by_cases hlt : k < n
    · obtain ⟨b, off, rfl, hbl, hat⟩ := HU.out.at (by omega)
      obtain ⟨b', off', rfl, hbl', hat'⟩ := HV.out.at (by omega)
      obtain ⟨vp, c0, c1, hsl⟩ := hat k hlt
      obtain ⟨vp', d0, d1, hsl'⟩ := hat' k hlt
      rw [← (bcell HB.out).1 _ _ hbl] at c0 c1
      rw [← (bcell HB.out).1 _ _ hbl'] at d0 d1
      have HEq := Lib.hid (eqEntry_same (ew E k) vp vp' (ep E k) wr.drew ((hsl.below HB.out).drewN 1) ((hsl'.below HB.out).drewN 1))
      obtain ⟨aa, cc, rfl⟩ := SlI.shape hsl
      obtain ⟨aa', cc', rfl⟩ := SlI.shape hsl'
      have HB2 : Hid (Below w.heap.size w wr.drew) := Lib.hid HB.out.drew
      clear hat hat' hsl hsl' HB
      generalize ew E k = s at *
      generalize (ep E k).length = l at *
      go_wp2_with fail
      go_still_tail 8, (by kernel_rfl)
      clear c0 c1 d0 d1
      go_wp2_with fail
      refine HEq.out.mono ?_
      rintro e w3 ⟨rfl, b3⟩
      have HB3 : Hid (Below w.heap.size w w3) := Lib.hid (HB2.out.trans (b3.mono HB2.out.size))
      clear b3
      go_wp2_with fail
      go_roundw
      case rel => exact ⟨k + 1, by omega, by go_num, HB3⟩
      case measure => simp [intOf]; omega
    · obtain rfl : k = n := by omega
      go_wp2_with fail
      go_ret
      exact ⟨rfl, HB.out⟩
end Go.Proofs.YtflnbpiegcepcaaDoor
