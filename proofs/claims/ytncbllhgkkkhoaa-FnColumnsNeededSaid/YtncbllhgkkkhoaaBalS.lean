/- The smallest height by the reference; the ends of balanced columns by both. -/
import Derived.Test.YtncbllhgkkkhoaaBalH
namespace Go.Proofs.Ytncbllhgkkkhoaa
open Go.RowKit
set_option maxHeartbeats 1000000
set_option maxRecDepth 100000

theorem need_bad {L : List Int} {c h : Nat} (hg : goodH L c h = false) : need h L < 0 ∨ (0 ≤ need h L ∧ (c : Int) < need h L) := by
  unfold goodH at hg
  unfold need
  cases hf : fitB h L
  · left; simp
  · right
    rw [hf] at hg
    simp at hg ⊢
    omega
theorem need_good {L : List Int} {c h : Nat} (hg : goodH L c h = true) : 0 ≤ need h L ∧ need h L ≤ c := by
  unfold goodH at hg
  rw [Bool.and_eq_true, decide_eq_true_eq] at hg
  unfold need
  rw [hg.1]
  simp; omega

theorem sbalanced_any (v : Value) (L : List Int) (c : Nat) (w : World) (hs : SlI w v L) (hok : okH L = true) (hc : 1 ≤ c) (hsm : sumL L ≤ 10000) :
    Calls Try.prog 43 #[v, .int .i64 c] w fun e w' => e = .returned (.int .i64 (balN L c)) ∧ w = w' := by
  have HS := Lib.hid hs
  have HG := Lib.hid (balN_good hok hc hsm)
  have HLow : Hid (∀ h, h < balN L c → need h L < 0 ∨ (0 ≤ need h L ∧ (c : Int) < need h L)) := fun h hh => need_bad (balN_low hh)
  have HHi : Hid (0 ≤ need (balN L c) L ∧ need (balN L c) L ≤ c) := need_good HG.out
  have HOk := Lib.hid hok
  have htop := balN_top L c
  clear hs hok HG hsm
  generalize balN L c = m at *
  go_enter Try.func43, Try.ntmps43
  go_wp2_with fail
  go_loop [5] (fun s => ∃ h : Nat, s = .int .i64 h ∧ h ≤ m) (fun s => m - (intOf s).toNat)
  case atStart => exact ⟨0, rfl, by omega⟩
  case round =>
    obtain ⟨h, rfl, hm⟩ := hrel
    have HN : Hid (Calls Try.prog 37 #[v, .int .i64 h] w fun e w' => e = .returned (.int .i64 (need h L)) ∧ w = w') := scolumnsNeeded_any v L h w HS.out HOk.out (by omega) (by omega)
    by_cases hlt : h < m
    · have hb := HLow.out h hlt
      generalize need h L = d at *
      rcases hb with hb | ⟨hb, hb2⟩
      · go_wp2_with (go_at_call 37; refine HN.out.mono ?_; rintro e w' ⟨rfl, rfl⟩)
        go_round
        case rel => exact ⟨h + 1, by go_num, by omega⟩
        case measure => simp [intOf]; omega
      · have hd : decide (d < 0) = false := by simp; omega
        go_wp2_with (go_at_call 37; refine HN.out.mono ?_; rintro e w' ⟨rfl, rfl⟩)
        go_round
        case rel => exact ⟨h + 1, by go_num, by omega⟩
        case measure => simp [intOf]; omega
    · obtain rfl : h = m := by omega
      have hb := HHi.out
      have HH := HHi
      clear HHi HLow
      generalize need h L = d at *
      have hd : decide (d < 0) = false := by simp; omega
      have hd2 : decide ((c : Int) < d) = false := by simp; omega
      obtain ⟨hb1, hb2⟩ := hb
      go_wp2_with (go_at_call 37; refine HN.out.mono ?_; rintro e w' ⟨rfl, rfl⟩)
      go_ret
      exact ⟨rfl, rfl⟩

theorem sbalancedHeight_any (v : Value) (L : List Int) (c : Int) (w : World) (hs : SlI w v L) :
    Calls Try.prog 20 #[v, .int .i64 c] w fun e w' => e = .returned (.int .i64 (balI L c)) ∧ w = w' := by
  have HS := Lib.hid hs
  obtain ⟨a, cap, rfl, h2, h3, _⟩ := hs
  unfold maxLen at h3
  cases hok : okH L
  · have HE := Lib.hid (balI_bad (c := c) hok)
    go_enter Try.func20, Try.ntmps20
    go_wp2_with (first | (go_at_call 32; refine (svalidHeights_any _ L _ HS.out).mono ?_; rintro e w' ⟨rfl, rfl⟩))
    go_ret
    rw [HE.out]
    exact ⟨rfl, rfl⟩
  · by_cases hc : 1 ≤ c ∧ c ≤ 8
    · have hd : decide (1 ≤ c ∧ c ≤ 8) = true := by simpa using hc
      have hk := (okH_at hok)
      have HK := Lib.hid hk.2
      have hl := hk.1
      have HOk := Lib.hid hok
      have HC : Hid (∀ k, k < L.length → ∃ b off, a = some ⟨b, off, none⟩ ∧ b < w.heap.size ∧ ∀ j, j < L.length → w.cell? ⟨b, off + j, none⟩ = some (.int .i64 (L.getD j 0))) := fun k hk => HS.out.cells (by omega)
      have HSt : Hid (∀ k, sumTo L (k + 1) = sumTo L k + L.getD k 0) := fun k => rfl
      have HE : Hid (sumL L = sumTo L L.length) := rfl
      have HSb := Lib.hid (sumTo_okH hok)
      have HHi : Hid (¬ sumL L ≤ 10000 → balI L c = -1) := balI_high
      obtain ⟨m, rfl⟩ := Int.eq_ofNat_of_zero_le (show 0 ≤ c by omega)
      have HGo : Hid (sumL L ≤ 10000 → balI L m = balN L m) := balI_good hok (by omega) (by omega)
      have HN : Hid (sumL L ≤ 10000 → Calls Try.prog 43 #[.slice a L.length cap, .int .i64 m] w fun e w' => e = .returned (.int .i64 (balN L m)) ∧ w = w') := sbalanced_any _ L m w HS.out hok (by omega)
      clear hk
      generalize L.length = n at *
      go_enter Try.func20, Try.ntmps20
      go_wp2_with (first | (go_at_call 32; refine (svalidHeights_any _ L _ HS.out).mono ?_; rintro e w' ⟨rfl, rfl⟩) | (go_at_call 36; refine (inRange_any _ _ _ _).mono ?_; rintro e w' ⟨rfl, rfl⟩))
      clear hok hd
      go_loop [5, 6] (fun s i => ∃ k : Nat, k ≤ n ∧ i = .int .i64 k ∧ s = .int .i64 (sumTo L k)) (fun _ i => n - (intOf i).toNat)
      case atStart => exact ⟨0, by omega, rfl, rfl⟩
      case round =>
        obtain ⟨k, hk, rfl, rfl⟩ := hrel
        obtain ⟨s0, s1⟩ := HSb.out k hk
        by_cases hlt : k < n
        · obtain ⟨b, off, rfl, hb, hc⟩ := HC.out k hlt
          have c0 := hc k hlt
          have hx := HK.out k hlt
          have HT := Lib.hid (HSt.out k)
          clear hc
          generalize L.getD k 0 = x at *
          generalize sumTo L k = s at *
          go_wp2_with fail
          go_round
          case rel => exact ⟨k + 1, by omega, by go_num, by rw [HT.out]⟩
          case measure => simp [intOf]; omega
        · obtain rfl : k = n := by omega
          rw [← HE.out] at s0 s1 ⊢
          by_cases hsm : sumL L ≤ 10000
          · have HV := Lib.hid (HGo.out hsm)
            have HM := Lib.hid (HN.out hsm)
            have hd : decide ((10000 : Int) < sumL L) = false := by simp; omega
            clear HE HSt HSb HGo HN HHi HK HC
            go_wp2_with (go_at_call 43; refine HM.out.mono ?_; rintro e w' ⟨rfl, rfl⟩)
            go_ret
            rw [HV.out]
            exact ⟨rfl, rfl⟩
          · have HV := Lib.hid (HHi.out (by omega))
            have hd : decide ((10000 : Int) < sumL L) = true := by simp; omega
            clear HE HSt HSb HGo HN HHi HK HC
            go_wp2_with fail
            go_ret
            rw [HV.out]
            exact ⟨rfl, rfl⟩
    · have hd : decide (1 ≤ c ∧ c ≤ 8) = false := by simpa using hc
      have HE := Lib.hid (balI_out (L := L) hc)
      clear hc
      go_enter Try.func20, Try.ntmps20
      go_wp2_with (first | (go_at_call 32; refine (svalidHeights_any _ L _ HS.out).mono ?_; rintro e w' ⟨rfl, rfl⟩) | (go_at_call 36; refine (inRange_any _ _ _ _).mono ?_; rintro e w' ⟨rfl, rfl⟩))
      go_ret
      rw [HE.out]
      exact ⟨rfl, rfl⟩

/-- The ends of balanced columns. -/
def balE (L : List Int) (c : Int) : List Int := if balI L c < 0 then [] else endsF (balI L c) L
theorem balI_some {L : List Int} {c : Int} (h : ¬ balI L c < 0) : okH L = true ∧ (1 ≤ c ∧ c ≤ 8) ∧ sumL L ≤ 10000 ∧ balI L c = balN L c.toNat := by
  unfold balI at h ⊢
  by_cases h1 : okH L = true ∧ (1 ≤ c ∧ c ≤ 8) ∧ sumL L ≤ 10000
  · rw [if_pos h1]; exact ⟨h1.1, h1.2.1, h1.2.2, rfl⟩
  · rw [if_neg h1] at h; omega
theorem balI_le (L : List Int) (c : Int) : balI L c ≤ 10000 := by
  unfold balI
  have := balN_top L c.toNat
  split <;> omega
theorem balE_fit {L : List Int} {c : Int} (h : ¬ balI L c < 0) : fitB (balI L c) L = true ∧ cnt (balI L c) L L.length ≤ c.toNat := by
  obtain ⟨h1, h2, h3, h4⟩ := balI_some h
  have hg := balN_good (c := c.toNat) h1 (by omega) h3
  rw [h4]
  unfold goodH at hg
  rw [Bool.and_eq_true, decide_eq_true_eq] at hg
  exact hg
theorem endsF_short (h : Int) (L : List Int) (hok : okH L = true) (h0 : 0 ≤ h) (hf : fitB h L = true) : (endsF h L).length ≤ 40 := by
  rw [endsF_len h L h0 hok hf]
  have b := room_bd h L L.length h0 (fun k hk => ⟨((okH_at hok).2 k hk).1, fitB_at hf k hk⟩) L.length (Nat.le_refl _)
  have := (okH_at hok).1
  omega
theorem balE_len (L : List Int) (c : Int) : (balE L c).length ≤ 40 := by
  unfold balE
  by_cases h : balI L c < 0
  · rw [if_pos h]; simp
  · rw [if_neg h]
    exact endsF_short _ L (balI_some h).1 (by omega) (balE_fit h).1

theorem balanceColumns_any (v : Value) (L : List Int) (c : Int) (w : World) (hs : SlI w v L) :
    Calls Try.prog 26 #[v, .int .i64 c] w (GaveI (balE L c) w) := by
  have HS := Lib.hid hs
  have htop := balI_le L c
  go_enter Try.func26, Try.ntmps26
  go_wp2_with fail
  refine (balancedHeight_any v L c _ HS.out).mono ?_
  rintro e w1 ⟨rfl, b1⟩
  have HS1 := Lib.hid (HS.out.below b1)
  have HB := Lib.hid b1
  clear b1 hs
  by_cases hneg : balI L c < 0
  · have HE : Hid (balE L c = []) := Lib.hid (by unfold balE; rw [if_pos hneg])
    go_wp2_with fail
    go_ret
    rw [HE.out]
    exact ⟨_, rfl, own_nil0 _ _ _ (Nat.le_refl _), HB.out⟩
  · have HE : Hid (balE L c = endsF (balI L c) L) := Lib.hid (by unfold balE; rw [if_neg hneg])
    have HF := Lib.hid (balE_fit hneg)
    have HK := Lib.hid (balI_some hneg)
    generalize balI L c = h at *
    go_wp2_with fail
    refine (fillColumns_any v L h _ HS1.out HK.out.1 (by omega) (by omega)).mono ?_
    rintro e w2 ⟨v2, rfl, o2, b2⟩
    rw [HF.out.1, if_pos rfl] at o2
    rw [HF.out.1]
    have HB2 := Lib.hid (HB.out.trans (b2.mono HB.out.size))
    have HO := Lib.hid (o2.mono HB.out.size (Nat.le_refl _) (Nat.le_refl _))
    clear b2 o2
    go_wp2_with fail
    go_ret
    rw [HE.out]
    exact ⟨_, rfl, HO.out, HB2.out⟩

def restOf (h : Int) (L : List Int) (k : Nat) : Int := if k = 0 then h else room h L k
theorem restOf_succ (h : Int) (L : List Int) (k : Nat) (h0 : 0 < L.getD k 0) (hf : L.getD k 0 ≤ h) : restOf h L (k + 1) = (if restOf h L k < L.getD k 0 then h else restOf h L k) - L.getD k 0 := by
  unfold restOf
  rw [if_neg (by omega), room_succ]
  by_cases hk : k = 0
  · subst hk
    rw [room_zero, if_pos h0, if_pos rfl, if_neg (by omega)]
  · rw [if_neg hk]
    split <;> rfl
theorem tl_rest (h : Int) (L : List Int) (k : Nat) (hk : 0 < k → 0 < cnt h L k) (hf : L.getD k 0 ≤ h) : tl h L (k + 1) = if restOf h L k < L.getD k 0 then tl h L k ++ [(k : Int)] else tl h L k := by
  by_cases h0 : k = 0
  · subst h0
    unfold restOf
    rw [if_pos rfl, if_neg (by omega), tl_one]
    rfl
  · rw [tl_succ h L k (hk (by omega))]
    unfold restOf
    rw [if_neg h0]

theorem sbalanceColumns_any (v : Value) (L : List Int) (c : Int) (w : World) (hs : SlI w v L) :
    Calls Try.prog 25 #[v, .int .i64 c] w (GaveI (balE L c) w) := by
  have HS := Lib.hid hs
  have htop := balI_le L c
  obtain ⟨a, cap, rfl, h2, h3, _⟩ := hs
  unfold maxLen at h3
  have HO0 : Hid ((w.alloc (.cells #[] 3)).ownsRow w.heap.size 3 1 (.slice (some ⟨w.heap.size, 0, none⟩) 0 0) 0 (([] : List Int).map (Value.int .i64))) :=
    World.ownsRow_lit w #[] 0 (Nat.le_refl _) (Nat.zero_le _) rfl
  have hb0 : Below w.heap.size w (w.alloc (.cells #[] 3)) := (Below.refl _ _).alloc (Nat.le_refl _) _
  have HS1 := Lib.hid (HS.out.below hb0)
  have HB0 := Lib.hid hb0
  clear hb0
  have HN : Hid (Calls Try.prog 20 #[.slice a L.length cap, .int .i64 c] (w.alloc (.cells #[] 3)) fun e w' => e = .returned (.int .i64 (balI L c)) ∧ (w.alloc (.cells #[] 3)) = w') := sbalancedHeight_any _ L c _ HS1.out
  by_cases hneg : balI L c < 0
  · have HE : Hid (balE L c = []) := Lib.hid (by unfold balE; rw [if_pos hneg])
    go_enter Try.func25, Try.ntmps25
    go_wp2_with (go_at_call 20; refine HN.out.mono ?_; rintro e w' ⟨rfl, rfl⟩)
    go_ret
    rw [HE.out]
    exact ⟨_, rfl, own_nil0 _ _ _ (Nat.le_refl _), HB0.out⟩
  · have HE : Hid (balE L c = endsF (balI L c) L) := Lib.hid (by unfold balE; rw [if_neg hneg])
    have hok := (balI_some hneg).1
    have hfit := fitB_at (balE_fit hneg).1
    have hl := (okH_at hok).1
    have HK : Hid (∀ k, k < L.length → 1 ≤ L.getD k 0 ∧ L.getD k 0 ≤ balI L c) := fun k hk => ⟨((okH_at hok).2 k hk).1, hfit k hk⟩
    have HBd : Hid (∀ k, k ≤ L.length → 0 ≤ restOf (balI L c) L k ∧ restOf (balI L c) L k ≤ balI L c ∧ (tl (balI L c) L k).length ≤ k) := fun k hk => by
      have b := room_bd (balI L c) L L.length (by omega) HK.out k hk
      have t := tl_len (balI L c) L k
      unfold restOf
      split <;> omega
    have HS2 : Hid (∀ k, k < L.length → restOf (balI L c) L (k + 1) = (if restOf (balI L c) L k < L.getD k 0 then balI L c else restOf (balI L c) L k) - L.getD k 0) := fun k hk => restOf_succ _ L k (by have := HK.out k hk; omega) (HK.out k hk).2
    have HS3 : Hid (∀ k, k < L.length → tl (balI L c) L (k + 1) = if restOf (balI L c) L k < L.getD k 0 then tl (balI L c) L k ++ [(k : Int)] else tl (balI L c) L k) := fun k hk => tl_rest _ L k (fun h0 => (room_bd (balI L c) L L.length (by omega) HK.out k (by omega)).2.2.2.1 h0) (HK.out k hk).2
    have HE0 : Hid (L.length = 0 → endsF (balI L c) L = []) := fun e => by unfold endsF; rw [if_pos e]
    have HE1 : Hid (¬ L.length = 0 → endsF (balI L c) L = tl (balI L c) L L.length ++ [(L.length : Int)]) := fun e => by unfold endsF; rw [if_neg e]; rfl
    have HC : Hid (∀ k, k < L.length → ∃ b off, a = some ⟨b, off, none⟩ ∧ b < w.heap.size ∧ ∀ j, j < L.length → w.cell? ⟨b, off + j, none⟩ = some (.int .i64 (L.getD j 0))) := fun k hk => HS.out.cells (by omega)
    have HR0 : Hid (restOf (balI L c) L 0 = balI L c) := by unfold restOf; rfl
    have HT0 : Hid (tl (balI L c) L 0 = []) := rfl
    clear hok hfit
    generalize balI L c = h at *
    generalize hn : L.length = n at *
    clear hn
    have HO1 : Hid ((w.alloc (.cells #[] 3)).ownsRow w.heap.size 3 1 (.slice (some ⟨w.heap.size, 0, none⟩) 0 0) (tl h L 0).length ((tl h L 0).map (Value.int .i64))) := by rw [HT0.out]; exact HO0.out
    clear HO0
    go_enter Try.func25, Try.ntmps25
    go_wp2_with (go_at_call 20; refine HN.out.mono ?_; rintro e w' ⟨rfl, rfl⟩)
    go_loopw [5, 7, 8] (fun v r i wr => ∃ k : Nat, k ≤ n ∧ i = .int .i64 k ∧ r = .int .i64 (restOf h L k) ∧ Hid (Below w.heap.size w wr) ∧ Hid (wr.ownsRow w.heap.size 3 1 v (tl h L k).length ((tl h L k).map (Value.int .i64)))) (fun _ _ i _ => n - (intOf i).toNat)
    case atStart => exact ⟨0, by omega, rfl, by rw [HR0.out], HB0, HO1⟩
    case round =>
      clear HB0 HO1 HR0 HT0 HN HS1
      obtain ⟨k, hk, rfl, rfl, HB, HO⟩ := hrel
      obtain ⟨b1, b2, b3⟩ := HBd.out k hk
      have hBs := HB.out.size
      by_cases hlt : k < n
      · obtain ⟨b, off, rfl, hb, hc⟩ := HC.out k hlt
        have c0 := (HB.out.cell (p := ⟨b, off + k, none⟩) hb).trans (hc k hlt)
        have hx := HK.out k hlt
        have HT2 := Lib.hid (HS2.out k hlt)
        have HT3 := Lib.hid (HS3.out k hlt)
        clear hc
        generalize L.getD k 0 = x at *
        generalize restOf h L k = r at *
        by_cases hrx : r < x
        · have HU2 : Hid (restOf h L (k + 1) = h - x) := Lib.hid (by rw [HT2.out, if_pos hrx])
          have HU3 : Hid (tl h L (k + 1) = tl h L k ++ [(k : Int)]) := Lib.hid (by rw [HT3.out, if_pos hrx])
          clear HT2 HT3
          generalize tl h L k = T at *
          go_wp2_with (at_builtin; go_must (refine wpList_append_int rfl _ _ rfl w.heap.size _ T.length T (k : Int) HO.out rfl rfl (by omega) hBs ?_))
          intro v' w' g1 g2
          have HB2 : Hid (Below w.heap.size w w') := HB.out.grown g2 hBs (fun j hj => (HO.out.lt j hj).1)
          have HO2 : Hid (w'.ownsRow w.heap.size 3 1 v' (tl h L (k + 1)).length ((tl h L (k + 1)).map (Value.int .i64))) := Lib.hid (by rw [HU3.out]; simpa using g1)
          have c1 := (HB2.out.cell (p := ⟨b, off + k, none⟩) hb).trans ((HB.out.cell (p := ⟨b, off + k, none⟩) hb).symm.trans c0)
          clear g1 g2 HB HO hBs c0
          go_wp2_with fail
          go_roundw
          case rel => exact ⟨k + 1, by omega, by go_num, by rw [HU2.out], HB2, HO2⟩
          case measure => simp [intOf]; omega
        · have HU2 : Hid (restOf h L (k + 1) = r - x) := Lib.hid (by rw [HT2.out, if_neg hrx])
          have HU3 : Hid (tl h L (k + 1) = tl h L k) := Lib.hid (by rw [HT3.out, if_neg hrx])
          have HO2 : Hid (wr.ownsRow w.heap.size 3 1 u5 (tl h L (k + 1)).length ((tl h L (k + 1)).map (Value.int .i64))) := Lib.hid (by rw [HU3.out]; exact HO.out)
          clear HT2 HT3 HO
          go_wp2_with fail
          go_roundw
          case rel => exact ⟨k + 1, by omega, by go_num, by rw [HU2.out], HB, HO2⟩
          case measure => simp [intOf]; omega
      · obtain rfl : k = n := by omega
        by_cases hk0 : k = 0
        · subst hk0
          have HEE : Hid (balE L c = []) := Lib.hid (by rw [HE.out, HE0.out rfl])
          have HO2 : Hid (wr.ownsRow w.heap.size 3 1 u5 0 (([] : List Int).map (Value.int .i64))) := HO.out
          clear HO
          go_wp2_with fail
          go_ret
          rw [HEE.out]
          exact ⟨_, rfl, own_row HO2.out rfl, HB.out⟩
        · have HEE := Lib.hid (HE.out.trans (HE1.out hk0))
          have hkp : decide ((0 : Int) < (k : Int)) = true := by simp; omega
          generalize tl h L k = T at *
          go_wp2_with (at_builtin; go_must (refine wpList_append_int rfl _ _ rfl w.heap.size _ T.length T (k : Int) HO.out rfl rfl (by omega) hBs ?_))
          intro v' w' g1 g2
          have HB2 : Hid (Below w.heap.size w w') := HB.out.grown g2 hBs (fun j hj => (HO.out.lt j hj).1)
          have HO2 : Hid (OwnI w.heap.size w'.heap.size w' v' (T ++ [(k : Int)])) := Lib.hid (own_row (by simpa using g1) (by simp))
          clear g1 g2 HB HO hBs
          go_wp2_with fail
          go_ret
          rw [HEE.out]
          exact ⟨_, rfl, HO2.out, HB2.out⟩
end Go.Proofs.Ytncbllhgkkkhoaa
