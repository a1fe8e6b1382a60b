/- The program's CollectIndex. -/
import Derived.Test.YtflnbpiegcepcaaDoorIdxMen
import Derived.Test.YtflnbpiegcepcaaDoorIdxAdd
namespace Go.Proofs.YtflnbpiegcepcaaDoor
open Go.RowKit
set_option maxHeartbeats 4000000
set_option maxRecDepth 100000
set_option linter.unusedVariables false

def GaveE (E : List Ent) (w : World) (e : Ending) (w' : World) : Prop := ∃ v, e = .returned v ∧ OwnE w.heap.size w'.heap.size w' v E ∧ Below w.heap.size w w'
theorem gaveE_nil {w w' : World} (hb : Below w.heap.size w w') : GaveE [] w (.returned (.slice none 0 0)) w' := ⟨_, rfl, (OwnE.nil w.heap.size w'), hb⟩

theorem collectIndex_any (v : Value) (M : List Men) (w : World) (h : SlM w v M) (hz : ∀ i, i < M.length → (mw M i).size ≤ maxLen) :
    Calls Tryd.prog 26 #[v] w (GaveE (colS M) w) := by
  obtain ⟨a, cap, rfl, hc, hm⟩ := h.shape
  have HS := Lib.hid h
  unfold maxLen at hm
  by_cases hlong : 40 < M.length
  · rw [colS_no (okMs_long hlong)]
    clear HS h hz
    have hd : decide ((40 : Int) < M.length) = true := decide_eq_true (by omega)
    go_enter Tryd.func26, Tryd.ntmps26
    go_wp2_with fail
    go_ret
    exact gaveE_nil (Below.refl _ _)
  · have HZ := Lib.hid hz
    have HBad : Hid (∀ k, k < M.length → okM (mw M k, mp M k) = false → ∀ w', Below w.heap.size w w' → GaveE (colS M) w (.returned (.slice none 0 0)) w') := Lib.hid (fun k h1 h2 w' hb => by rw [colS_no (okMs_bad h1 h2)]; exact gaveE_nil hb)
    have HGood : Hid ((∀ k, k < M.length → okM (mw M k, mp M k) = true) → colS M = colF M M.length) := Lib.hid (fun h => colS_ok (okMs_of (by omega) h))
    have HOk := Lib.hid (fun k (h : k ≤ M.length) => colF_ok M k h)
    have HSucc := Lib.hid (fun k (h : k < M.length) => colF_succ M k h)
    have hd : decide ((40 : Int) < M.length) = false := decide_eq_false (by omega)
    clear h hz
    obtain ⟨n, hn⟩ : ∃ n, M.length = n := ⟨_, rfl⟩
    rw [hn] at HS HZ HBad HGood HOk HSucc hd hc hlong ⊢
    clear hn
    have HE0 : Hid (OwnE w.heap.size w.heap.size w (.slice none 0 0) (colF M 0)) := Lib.hid (OwnE.nil _ _)
    go_enter Tryd.func26, Tryd.ntmps26
    go_wp2_with fail
    go_loopw [3, 5, 11] (fun v u5 i wr => ∃ (k : Nat) (vv : Value), k ≤ n ∧ i = .int .i64 k ∧ vv = v ∧ Hid (OwnE w.heap.size wr.heap.size wr vv (colF M k)) ∧ Hid (Below w.heap.size w wr) ∧ Hid (∀ j, j < k → okM (mw M j, mp M j) = true)) (fun _ _ i _ => n - (intOf i).toNat)
    case atStart => exact ⟨0, _, by omega, rfl, rfl, HE0, Lib.hid (Below.refl _ _), Lib.hid (fun j hj => by omega)⟩
    case round =>
      clear HE0
      obtain ⟨k, vv, hk, rfl, rfl, HO, HB, HP⟩ := hrel
      by_cases hlt : k < n
      · obtain ⟨b, off, rfl, hbl, hat⟩ := HS.out.at (by omega)
        obtain ⟨c0, c1⟩ := hat k hlt
        rw [← (bcell HB.out).1 _ _ hbl] at c0 c1
        have HVW := Lib.hid (fun w' => validWord_any (mw M k) w' (HZ.out k hlt))
        have HP' : Hid (okM (mw M k, mp M k) = true → ∀ j, j < k + 1 → okM (mw M j, mp M j) = true) := Lib.hid (fun hz j hj => by
          by_cases e : j = k
          · subst e; exact hz
          · exact HP.out j (by omega))
        have HBk := Lib.hid (HBad.out k hlt)
        have HSk := Lib.hid (HSucc.out k hlt)
        obtain ⟨hok, hlE, hlP⟩ := HOk.out k hk
        have HAdd : Hid (∀ (W : World) (vv vp : Value), OwnE w.heap.size W.heap.size W vv (colF M k) → SlI W vp [mp M k] → w.heap.size ≤ W.heap.size → (vp.ownBlock = none ∨ vp.ownBlock ≠ vv.ownBlock) → Calls Tryd.prog 49 #[vv, .string (mw M k), vp] W (Added w.heap.size (colF M k) (mw M k) [mp M k] W)) :=
          Lib.hid (fun W vv vp h1 h2 h3 h4 => addPages_any w.heap.size vv (colF M k) (mw M k) vp [mp M k] W h1 h2 (by simp) hok (by omega) (fun e he => by have := hlP e he; simp; omega) (by simp) h3 h4)
        have hbs := HB.out.size
        clear hat hok hlE hlP HP
        obtain ⟨s, hs⟩ : ∃ s, mw M k = s := ⟨_, rfl⟩
        obtain ⟨p, hp⟩ : ∃ p, mp M k = p := ⟨_, rfl⟩
        rw [hs, hp] at HP' HBk HSk HAdd
        rw [hs] at c0 HVW
        rw [hp] at c1
        clear hs hp
        cases hw : okW s with
        | false =>
          rw [hw] at HVW
          have HF := Lib.hid (HBk.out (by unfold okM; rw [hw]; rfl))
          clear hw HAdd HSk HP'
          go_wp2_with fail
          refine (HVW.out _).mono ?_
          rintro e w' ⟨rfl, rfl⟩
          go_wp2_with fail
          go_ret
          exact HF.out _ (HB.out.alloc hbs _)
        | true =>
          rw [hw] at HVW
          by_cases hr : 1 ≤ p ∧ p ≤ 3999
          · have hd2 : decide (1 ≤ p ∧ p ≤ 3999) = true := decide_eq_true hr
            have HX := Lib.hid (HP'.out (by unfold okM; rw [hw, decide_eq_true hr]; rfl))
            have HWB : Hid (Below wr.heap.size wr ((wr.alloc (.cells #[.string s, .int .i64 p] 74)).alloc (.cells #[.int .i64 p] 3))) := Lib.hid (((Below.refl _ _).alloc (Nat.le_refl _) _).alloc (by simp) _)
            have HCall := Lib.hid (HAdd.out ((wr.alloc (.cells #[.string s, .int .i64 p] 74)).alloc (.cells #[.int .i64 p] 3)) vv (.slice (some ⟨wr.heap.size + 1, 0, none⟩) 1 1)
              ((HO.out.below HWB.out).mono (Nat.le_refl _) (by simp; omega) (Nat.le_refl _))
              ⟨some ⟨wr.heap.size + 1, 0, none⟩, 1, rfl, by simp, by decide, .inr ⟨wr.heap.size + 1, 0, rfl, by simp, fun i hi => by
                obtain rfl : i = 0 := by simpa using hi
                exact World.cell?_alloc_at (w := wr.alloc (.cells #[.string s, .int .i64 p] 74)) #[.int .i64 p] _ (wr.heap.size + 1) 0 (by simp)⟩⟩
              (by simp; omega) (.inr (fun e => by
                obtain ⟨X, _, hrow, _⟩ := HO.out
                have := (hrow.lt (wr.heap.size + 1) e.symm).2
                omega)))
            clear hw HAdd HBk HP' hr
            go_wp2_with (first | (go_at_call 53; refine (HVW.out _).mono ?_; rintro e w' ⟨rfl, rfl⟩) | (go_at_call 54; refine (within_any _ _ _ _).mono ?_; rintro e w' ⟨rfl, rfl⟩))
            refine HCall.out.mono ?_
            rintro e w2 ⟨v2, rfl, o2, b2⟩
            have HO2 : Hid (OwnE w.heap.size w2.heap.size w2 v2 (colF M (k + 1))) := Lib.hid (by rw [HSk.out]; exact o2)
            have HB2 : Hid (Below w.heap.size w w2) := Lib.hid (((HB.out.alloc hbs _).alloc (by simp; omega) _).trans b2)
            clear HCall o2 b2
            go_wp2_with fail
            go_roundw
            case rel => exact ⟨k + 1, v2, by omega, by go_num, rfl, HO2, HB2, HX⟩
            case measure => simp [intOf]; omega
          · have hd2 : decide (1 ≤ p ∧ p ≤ 3999) = false := decide_eq_false hr
            have HF := Lib.hid (HBk.out (by unfold okM; rw [decide_eq_false hr]; simp))
            clear hw HAdd HSk HP' hr
            go_wp2_with (first | (go_at_call 53; refine (HVW.out _).mono ?_; rintro e w' ⟨rfl, rfl⟩) | (go_at_call 54; refine (within_any _ _ _ _).mono ?_; rintro e w' ⟨rfl, rfl⟩))
            go_ret
            exact HF.out _ (HB.out.alloc hbs _)
      · obtain rfl : k = n := by omega
        have hG := HGood.out HP.out
        have HO2 : Hid (GaveE (colS M) w (.returned vv) wr) := Lib.hid (by rw [hG]; exact ⟨_, rfl, HO.out, HB.out⟩)
        clear hG HO
        go_wp2_with fail
        go_ret
        exact HO2.out
end Go.Proofs.YtflnbpiegcepcaaDoor
