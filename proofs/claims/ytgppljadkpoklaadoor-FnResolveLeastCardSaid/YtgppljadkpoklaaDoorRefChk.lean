/- Known pages: both checks; comparing by the reference and by the library; PagesOf and CheckResolved of both. -/
import Derived.Test.YtgppljadkpoklaaDoorRefLab
import Derived.Test.YtgppljadkpoklaaDoorShelf
import Derived.Test.YtgppljadkpoklaaDoorEqualInts
namespace Go.Proofs.YtgppljadkpoklaaDoor
open Go.RowKit
set_option maxHeartbeats 2000000
set_option maxRecDepth 100000

theorem blwD {B : Nat} {a w : World} (h : Below B a w) (n : Nat) : Below B a (w.drewN n) := h.trans ⟨rfl, rfl, rfl, Nat.le_refl _, fun _ _ => rfl⟩

theorem validKnown_any (v : Value) (L : List Int) (w : World) (h : SlI w v L) :
    Calls Tryd.prog 35 #[v] w fun e w' => e = .returned (.bool (okK L)) ∧ w = w' := by
  have HW := Lib.hid h
  obtain ⟨a, cap, rfl, h1, h2, _⟩ := h
  unfold maxLen at h2
  have HBad := Lib.hid (fun k hk hx => okK_bad (L := L) k hk hx)
  have HLong : Hid (¬ L.length = 10 → okK L = false) := okK_len
  have HGood : Hid (L.length = 10 → (∀ k, k < L.length → 0 ≤ L.getD k 0 ∧ L.getD k 0 ≤ 10000) → okK L = true) := okK_of
  have HC : Hid (∀ k, k < L.length → ∃ b off, a = some ⟨b, off, none⟩ ∧ b < w.heap.size ∧ ∀ j, j < L.length → w.cell? ⟨b, off + j, none⟩ = some (.int .i64 (L.getD j 0))) := fun k hk => HW.out.cells (by omega)
  clear HW
  generalize hn : L.length = n at *
  clear hn
  go_enter Tryd.func35, Tryd.ntmps35
  go_wp2_with fail
  go_loop [7] (fun i => ∃ k : Nat, k ≤ n ∧ i = .int .i64 k ∧ Hid (∀ j, j < k → 0 ≤ L.getD j 0 ∧ L.getD j 0 ≤ 10000)) (fun i => n - (intOf i).toNat)
  case atStart => exact ⟨0, by omega, rfl, fun j hj => by omega⟩
  case round =>
    obtain ⟨k, hk, rfl, HP⟩ := hrel
    by_cases hlt : k < n
    · obtain ⟨b, off, rfl, hb, hc⟩ := HC.out k hlt
      have c0 := hc k hlt
      have HB1 := Lib.hid (HBad.out k hlt)
      have HP1 : Hid (0 ≤ L.getD k 0 ∧ L.getD k 0 ≤ 10000 → ∀ j, j < k + 1 → 0 ≤ L.getD j 0 ∧ L.getD j 0 ≤ 10000) := by
        intro hx j hj
        by_cases hjk : j = k
        · subst hjk; exact hx
        · exact HP.out j (by omega)
      clear hc HP
      generalize L.getD k 0 = x at *
      by_cases hx : 0 ≤ x ∧ x ≤ 10000
      · have hd : decide (0 ≤ x ∧ x ≤ 10000) = true := by simpa using hx
        have HP2 := Lib.hid (HP1.out hx)
        clear HP1 hx
        go_wp2_with (go_at_call 34; refine (within_any _ _ _ _).mono ?_; rintro e w' ⟨rfl, rfl⟩)
        go_round
        case rel => exact ⟨k + 1, by omega, by go_num, HP2⟩
        case measure => simp [intOf]; omega
      · have hd : decide (0 ≤ x ∧ x ≤ 10000) = false := by simpa using hx
        have HF := Lib.hid (HB1.out hx)
        clear hx HP1 HB1
        go_wp2_with (go_at_call 34; refine (within_any _ _ _ _).mono ?_; rintro e w' ⟨rfl, rfl⟩)
        go_ret
        rw [HF.out]
        exact ⟨rfl, rfl⟩
    · obtain rfl : k = n := by omega
      by_cases hl : k = 10
      · have HF := Lib.hid (HGood.out hl HP.out)
        subst hl
        go_wp2_with fail
        go_ret
        rw [HF.out]
        exact ⟨rfl, rfl⟩
      · have HF := Lib.hid (HLong.out hl)
        have hd : ((k : Int) == 10) = false := by rw [beq_eq_false_iff_ne]; omega
        clear hl
        go_wp2_with fail
        go_ret
        rw [HF.out]
        exact ⟨rfl, rfl⟩

theorem svalidKnown_any (v : Value) (L : List Int) (w : World) (h : SlI w v L) :
    Calls Tryd.prog 39 #[v] w fun e w' => e = .returned (.bool (okK L)) ∧ w = w' := by
  have HW := Lib.hid h
  obtain ⟨a, cap, rfl, h1, h2, _⟩ := h
  unfold maxLen at h2
  have HBad := Lib.hid (fun k hk hx => okK_bad (L := L) k hk hx)
  have HLong : Hid (¬ L.length = 10 → okK L = false) := okK_len
  have HGood : Hid (L.length = 10 → (∀ k, k < L.length → 0 ≤ L.getD k 0 ∧ L.getD k 0 ≤ 10000) → okK L = true) := okK_of
  have HC : Hid (∀ k, k < L.length → ∃ b off, a = some ⟨b, off, none⟩ ∧ b < w.heap.size ∧ ∀ j, j < L.length → w.cell? ⟨b, off + j, none⟩ = some (.int .i64 (L.getD j 0))) := fun k hk => HW.out.cells (by omega)
  clear HW
  generalize hn : L.length = n at *
  clear hn
  go_enter Tryd.func39, Tryd.ntmps39
  go_wp2_with fail
  go_loop [3] (fun i => ∃ k : Nat, k ≤ n ∧ i = .int .i64 k ∧ Hid (∀ j, j < k → 0 ≤ L.getD j 0 ∧ L.getD j 0 ≤ 10000)) (fun i => n - (intOf i).toNat)
  case atStart => exact ⟨0, by omega, rfl, fun j hj => by omega⟩
  case round =>
    obtain ⟨k, hk, rfl, HP⟩ := hrel
    by_cases hlt : k < n
    · obtain ⟨b, off, rfl, hb, hc⟩ := HC.out k hlt
      have c0 := hc k hlt
      have HB1 := Lib.hid (HBad.out k hlt)
      have HP1 : Hid (0 ≤ L.getD k 0 ∧ L.getD k 0 ≤ 10000 → ∀ j, j < k + 1 → 0 ≤ L.getD j 0 ∧ L.getD j 0 ≤ 10000) := by
        intro hx j hj
        by_cases hjk : j = k
        · subst hjk; exact hx
        · exact HP.out j (by omega)
      clear hc HP
      generalize L.getD k 0 = x at *
      by_cases hx : 0 ≤ x ∧ x ≤ 10000
      · have hd : decide (0 ≤ x ∧ x ≤ 10000) = true := by simpa using hx
        have HP2 := Lib.hid (HP1.out hx)
        clear HP1 hx
        go_wp2_with (go_at_call 38; refine (inRange_any _ _ _ _).mono ?_; rintro e w' ⟨rfl, rfl⟩)
        go_round
        case rel => exact ⟨k + 1, by omega, by go_num, HP2⟩
        case measure => simp [intOf]; omega
      · have hd : decide (0 ≤ x ∧ x ≤ 10000) = false := by simpa using hx
        have HF := Lib.hid (HB1.out hx)
        clear hx HP1 HB1
        go_wp2_with (go_at_call 38; refine (inRange_any _ _ _ _).mono ?_; rintro e w' ⟨rfl, rfl⟩)
        go_ret
        rw [HF.out]
        exact ⟨rfl, rfl⟩
    · obtain rfl : k = n := by omega
      by_cases hl : k = 10
      · have HF := Lib.hid (HGood.out hl HP.out)
        subst hl
        go_wp2_with fail
        go_ret
        rw [HF.out]
        exact ⟨rfl, rfl⟩
      · have HF := Lib.hid (HLong.out hl)
        have hd : ((k : Int) == 10) = false := by rw [beq_eq_false_iff_ne]; omega
        clear hl
        go_wp2_with fail
        go_ret
        rw [HF.out]
        exact ⟨rfl, rfl⟩

theorem sameInts_any (u v : Value) (L M : List Int) (w : World) (hu : SlI w u L) (hv : SlI w v M) :
    Calls Tryd.prog 43 #[u, v] w (Same w (decide (L = M))) := by
  by_cases hl : L.length = M.length
  · · have HU := Lib.hid hu
      have HV := Lib.hid hv
      obtain ⟨a, cap, rfl, h1, h2, _⟩ := hu
      obtain ⟨a', cap', rfl, h1', h2', _⟩ := hv
      unfold maxLen at h2 h2'
      have HE := Lib.hid (getD_ext L M hl)
      have HD : Hid (∀ j, L.getD j 0 ≠ M.getD j 0 → ¬ L = M) := fun j h e => h (by rw [e])
      rw [← hl] at h1' HV ⊢
      clear hl
      generalize hn : L.length = n at *
      have HN := Lib.hid hn
      clear hn
      go_enter Tryd.func43, Tryd.ntmps43
      go_wp2_with fail
      go_loopw [5] (fun i wr => ∃ k : Nat, k ≤ n ∧ i = .int .i64 k ∧ Hid (∀ j, j < k → L.getD j 0 = M.getD j 0) ∧ ∃ q, wr = w.drewN q) (fun i _ => n - (intOf i).toNat)
      case atStart => exact ⟨0, by omega, rfl, fun j hj => by omega, 0, rfl⟩
      case round =>
        obtain ⟨k, hk, rfl, HP, q, rfl⟩ := hrel
        by_cases hlt : k < n
        · obtain ⟨b, off, rfl, _, h4⟩ := HU.out.cells (by omega)
          obtain ⟨b', off', rfl, _, h4'⟩ := HV.out.cells (by omega)
          have c1 := h4 k hlt
          have c2 := h4' k hlt
          by_cases hz : L.getD k 0 = M.getD k 0
          · have HP' : Hid (∀ j, j < k + 1 → L.getD j 0 = M.getD j 0) := fun j hj => by
              by_cases hjk : j = k
              · subst hjk; exact hz
              · exact HP.out j (by omega)
            rw [← hz] at c2
            clear hz h4 h4'
            generalize L.getD k 0 = z at *
            have hzz : (z != z) = false := by simp
            go_wp2_with fail
            go_quiet (fail)
            go_wp2_with fail
            go_roundw
            case rel => exact ⟨k + 1, by omega, by go_num, HP', _, rfl⟩
            case measure => simp [intOf]; omega
          · have HF : Hid (¬ L = M) := HD.out k hz
            have hzz : (L.getD k 0 != M.getD k 0) = true := by simpa using hz
            clear h4 h4' HP HE HD hz
            generalize L.getD k 0 = z at *
            generalize M.getD k 0 = z' at *
            go_wp2_with fail
            go_quiet (fail)
            go_wp2_with fail
            go_ret
            refine ⟨_, ?_, World.drewN_drewN ..⟩
            rw [decide_eq_false HF.out]; rfl
        · obtain rfl : k = n := by omega
          have HT : Hid (L = M) := HE.out HP.out
          go_wp2_with fail
          go_ret
          refine ⟨_, ?_, rfl⟩
          rw [decide_eq_true HT.out]; rfl
  · obtain ⟨a, cap, rfl, _, h2, _⟩ := hu
    obtain ⟨a', cap', rfl, _, h2', _⟩ := hv
    have hd : decide (L = M) = false := by simp; intro e; exact hl (by rw [e])
    rw [hd]
    have hne : ((L.length : Int) != (M.length : Int)) = true := by simpa using fun h => hl (by omega)
    go_enter Tryd.func43, Tryd.ntmps43
    go_wp2_with fail
    go_ret
    exact ⟨0, rfl, rfl⟩

theorem slicesEq_any (u v : Value) (L M : List Int) (w : World) (hu : SlI w u L) (hv : SlI w v M) :
    Calls Tryd.prog 45 #[u, v] w (Same w (decide (L = M))) := by
  have HU := Lib.hid hu
  have HV := Lib.hid hv
  obtain ⟨a, cap, rfl, h1, h2, _⟩ := hu
  obtain ⟨a', cap', rfl, h1', h2', _⟩ := hv
  unfold maxLen at h2 h2'
  by_cases hl : L.length = M.length
  · by_cases h0 : L.length = 0
    · have e1 : L = [] := List.length_eq_zero_iff.1 h0
      have e2 : M = [] := List.length_eq_zero_iff.1 (by omega)
      subst e1 e2
      refine (Tryd.slices_Equal_int_empty a a' cap 0 cap' w (by omega)).mono ?_
      rintro e w' ⟨rfl, rfl⟩
      exact ⟨0, rfl, rfl⟩
    · obtain ⟨b, off, rfl, _, hc⟩ := HU.out.cells (by omega)
      obtain ⟨b', off', rfl, _, hc'⟩ := HV.out.cells (by omega)
      refine (Tryd.slices_Equal_int b off L.length cap b' off' M.length cap' L M w (Nat.le_refl _) (Nat.le_refl _) (by omega) (by omega) hc hc').mono ?_
      rintro e w' ⟨rfl, q, rfl⟩
      refine ⟨q, ?_, rfl⟩
      rw [List.take_length, List.take_length]
      by_cases e : L = M
      · rw [decide_eq_true e, e]; simp
      · rw [decide_eq_false e, beq_eq_false_iff_ne.2 e]
  · refine (Tryd.slices_Equal_int_lens a a' L.length cap M.length cap' w hl).mono ?_
    rintro e w' ⟨rfl, rfl⟩
    refine ⟨0, ?_, rfl⟩
    rw [decide_eq_false (fun e => hl (by rw [e]))]

theorem nilI_gave {w w' : World} (hb : Below w.heap.size w w') : GaveI [] w (.returned (.slice none 0 0)) w' :=
  ⟨_, rfl, ⟨⟨rfl, .inl ⟨rfl, rfl⟩⟩, fun g hg => by simp [Value.ownBlock] at hg, Nat.le_refl _⟩, hb⟩

theorem pagesOf_all (v u : Value) (B : List Blk) (n : Int) (K : List Int) (w : World) (h : SlB w v B) (hu : SlI w u K) (hT : Pow10 w) :
    Calls Tryd.prog 12 #[v, .int .i64 n, u] w (GaveI (pagesS B n K) w) := by
  have HW := Lib.hid h
  have HU := Lib.hid hu
  have HT := Lib.hid hT
  clear h hu hT
  cases hok : okB B with
  | false =>
    have HE : Hid (pagesS B n K = []) := Lib.hid (by unfold pagesS; rw [hok]; rfl)
    go_enter Tryd.func12, Tryd.ntmps12
    go_wp2_with fail
    refine (validBlocks_any _ B _ HW.out).mono ?_
    rintro e w1 ⟨rfl, b1⟩
    go_wp2_with fail
    go_ret
    rw [HE.out]
    exact nilI_gave b1
  | true =>
    by_cases hn : 1 ≤ n ∧ n ≤ 40
    · have hd : decide (1 ≤ n ∧ n ≤ 40) = true := decide_eq_true hn
      cases hk : okK K with
      | false =>
        have HE : Hid (pagesS B n K = []) := Lib.hid (by unfold pagesS; rw [hk, Bool.and_false]; rfl)
        clear hn
        go_enter Tryd.func12, Tryd.ntmps12
        go_wp2_with fail
        refine (validBlocks_any _ B _ HW.out).mono ?_
        rintro e w1 ⟨rfl, b1⟩
        go_wp2_with fail
        refine (within_any _ _ _ _).mono ?_
        rintro e w2 ⟨rfl, rfl⟩
        go_wp2_with fail
        refine (validKnown_any _ K _ (HU.out.below b1)).mono ?_
        rintro e w2 ⟨rfl, rfl⟩
        go_wp2_with fail
        go_ret
        rw [HE.out]
        exact nilI_gave b1
      | true =>
        have HE : Hid (pagesS B n K = pagesF B n.toNat K B.length) := Lib.hid (by unfold pagesS; rw [hok, hd, hk]; rfl)
        obtain ⟨ln, rfl⟩ := Int.eq_ofNat_of_zero_le (show 0 ≤ n by omega)
        rw [Int.toNat_natCast] at HE
        have hn1 : 1 ≤ ln := by omega
        have hn2 : ln ≤ 40 := by omega
        clear hn
        go_enter Tryd.func12, Tryd.ntmps12
        go_wp2_with fail
        refine (validBlocks_any _ B _ HW.out).mono ?_
        rintro e w1 ⟨rfl, b1⟩
        go_wp2_with fail
        refine (within_any _ _ _ _).mono ?_
        rintro e w2 ⟨rfl, rfl⟩
        go_wp2_with fail
        refine (validKnown_any _ K _ (HU.out.below b1)).mono ?_
        rintro e w2 ⟨rfl, rfl⟩
        go_wp2_with fail
        refine (pagesOf_any v u B ln K _ (HW.out.below b1) (HU.out.below b1) (HT.out.below b1) hok hn1 hn2 hk).mono ?_
        rintro e w3 ⟨g, rfl, og, b3⟩
        have hlo := b1.size
        have HG : Hid (OwnI w.heap.size w3.heap.size w3 g (pagesF B ln K B.length)) := Lib.hid (og.mono hlo (Nat.le_refl _) (Nat.le_refl _))
        have HB := Lib.hid (b1.trans (b3.mono hlo))
        clear b1 b3 og
        go_wp2_with fail
        go_ret
        rw [HE.out]
        exact ⟨_, rfl, HG.out, HB.out⟩
    · have hd : decide (1 ≤ n ∧ n ≤ 40) = false := decide_eq_false hn
      have HE : Hid (pagesS B n K = []) := Lib.hid (by unfold pagesS; rw [hd, Bool.and_false]; rfl)
      clear hn
      go_enter Tryd.func12, Tryd.ntmps12
      go_wp2_with fail
      refine (validBlocks_any _ B _ HW.out).mono ?_
      rintro e w1 ⟨rfl, b1⟩
      go_wp2_with fail
      refine (within_any _ _ _ _).mono ?_
      rintro e w2 ⟨rfl, rfl⟩
      go_wp2_with fail
      go_ret
      rw [HE.out]
      exact nilI_gave b1

theorem spagesOf_all (v u : Value) (B : List Blk) (n : Int) (K : List Int) (w : World) (h : SlB w v B) (hu : SlI w u K) :
    Calls Tryd.prog 14 #[v, .int .i64 n, u] w (GaveI (pagesS B n K) w) := by
  have HW := Lib.hid h
  have HU := Lib.hid hu
  clear h hu
  cases hok : okB B with
  | false =>
    have HE : Hid (pagesS B n K = []) := Lib.hid (by unfold pagesS; rw [hok]; rfl)
    go_enter Tryd.func14, Tryd.ntmps14
    go_wp2_with fail
    refine (svalidBlocks_any _ B _ HW.out).mono ?_
    rintro e w1 ⟨n1, rfl, hw1⟩
    have b1 : Below w.heap.size w w1 := hw1 ▸ blwD (Below.refl _ _) n1
    clear hw1
    go_wp2_with fail
    go_ret
    rw [HE.out]
    exact nilI_gave b1
  | true =>
    by_cases hn : 1 ≤ n ∧ n ≤ 40
    · have hd : decide (1 ≤ n ∧ n ≤ 40) = true := decide_eq_true hn
      cases hk : okK K with
      | false =>
        have HE : Hid (pagesS B n K = []) := Lib.hid (by unfold pagesS; rw [hk, Bool.and_false]; rfl)
        clear hn
        go_enter Tryd.func14, Tryd.ntmps14
        go_wp2_with fail
        refine (svalidBlocks_any _ B _ HW.out).mono ?_
        rintro e w1 ⟨n1, rfl, hw1⟩
        have b1 : Below w.heap.size w w1 := hw1 ▸ blwD (Below.refl _ _) n1
        clear hw1
        go_wp2_with fail
        refine (inRange_any _ _ _ _).mono ?_
        rintro e w2 ⟨rfl, rfl⟩
        go_wp2_with fail
        refine (svalidKnown_any _ K _ (HU.out.below b1)).mono ?_
        rintro e w2 ⟨rfl, rfl⟩
        go_wp2_with fail
        go_ret
        rw [HE.out]
        exact nilI_gave b1
      | true =>
        have HE : Hid (pagesS B n K = pagesF B n.toNat K B.length) := Lib.hid (by unfold pagesS; rw [hok, hd, hk]; rfl)
        obtain ⟨ln, rfl⟩ := Int.eq_ofNat_of_zero_le (show 0 ≤ n by omega)
        rw [Int.toNat_natCast] at HE
        have hn1 : 1 ≤ ln := by omega
        have hn2 : ln ≤ 40 := by omega
        clear hn
        go_enter Tryd.func14, Tryd.ntmps14
        go_wp2_with fail
        refine (svalidBlocks_any _ B _ HW.out).mono ?_
        rintro e w1 ⟨n1, rfl, hw1⟩
        have b1 : Below w.heap.size w w1 := hw1 ▸ blwD (Below.refl _ _) n1
        clear hw1
        go_wp2_with fail
        refine (inRange_any _ _ _ _).mono ?_
        rintro e w2 ⟨rfl, rfl⟩
        go_wp2_with fail
        refine (svalidKnown_any _ K _ (HU.out.below b1)).mono ?_
        rintro e w2 ⟨rfl, rfl⟩
        go_wp2_with fail
        refine (spagesOf_any v u B ln K _ (HW.out.below b1) (HU.out.below b1) hok hn1 hn2 hk).mono ?_
        rintro e w3 ⟨g, rfl, og, b3⟩
        have hlo := b1.size
        have HG : Hid (OwnI w.heap.size w3.heap.size w3 g (pagesF B ln K B.length)) := Lib.hid (og.mono hlo (Nat.le_refl _) (Nat.le_refl _))
        have HB := Lib.hid (b1.trans (b3.mono hlo))
        clear b1 b3 og
        go_wp2_with fail
        go_ret
        rw [HE.out]
        exact ⟨_, rfl, HG.out, HB.out⟩
    · have hd : decide (1 ≤ n ∧ n ≤ 40) = false := decide_eq_false hn
      have HE : Hid (pagesS B n K = []) := Lib.hid (by unfold pagesS; rw [hd, Bool.and_false]; rfl)
      clear hn
      go_enter Tryd.func14, Tryd.ntmps14
      go_wp2_with fail
      refine (svalidBlocks_any _ B _ HW.out).mono ?_
      rintro e w1 ⟨n1, rfl, hw1⟩
      have b1 : Below w.heap.size w w1 := hw1 ▸ blwD (Below.refl _ _) n1
      clear hw1
      go_wp2_with fail
      refine (inRange_any _ _ _ _).mono ?_
      rintro e w2 ⟨rfl, rfl⟩
      go_wp2_with fail
      go_ret
      rw [HE.out]
      exact nilI_gave b1

theorem chkR_any (v u : Value) (B : List Blk) (n : Int) (K : List Int) (w : World) (h : SlB w v B) (hu : SlI w u K) (hT : Pow10 w) :
    Calls Tryd.prog 24 #[v, .int .i64 n, u] w fun e w' => e = .returned (.bool (chkR B n K)) ∧ Below w.heap.size w w' := by
  have HW := Lib.hid h
  have HU := Lib.hid hu
  have HT := Lib.hid hT
  clear h hu hT
  cases hok : okB B with
  | false =>
    have HE : Hid (chkR B n K = false) := Lib.hid (by unfold chkR; rw [hok]; rfl)
    go_enter Tryd.func24, Tryd.ntmps24
    go_wp2_with fail
    refine (validBlocks_any _ B _ HW.out).mono ?_
    rintro e w1 ⟨rfl, b1⟩
    go_wp2_with fail
    go_ret
    rw [HE.out]
    exact ⟨rfl, b1⟩
  | true =>
    by_cases hn : 1 ≤ n ∧ n ≤ 40
    · have hd : decide (1 ≤ n ∧ n ≤ 40) = true := decide_eq_true hn
      cases hk : okK K with
      | false =>
        have HE : Hid (chkR B n K = false) := Lib.hid (by unfold chkR; rw [hk, Bool.and_false]; rfl)
        clear hn
        go_enter Tryd.func24, Tryd.ntmps24
        go_wp2_with fail
        refine (validBlocks_any _ B _ HW.out).mono ?_
        rintro e w1 ⟨rfl, b1⟩
        go_wp2_with fail
        refine (within_any _ _ _ _).mono ?_
        rintro e w2 ⟨rfl, rfl⟩
        go_wp2_with fail
        refine (validKnown_any _ K _ (HU.out.below b1)).mono ?_
        rintro e w2 ⟨rfl, rfl⟩
        go_wp2_with fail
        go_ret
        rw [HE.out]
        exact ⟨rfl, b1⟩
      | true =>
        have HE : Hid (chkR B n K = decide (nextF B n.toNat K = K)) := Lib.hid (by unfold chkR; rw [hok, hd, hk]; rfl)
        obtain ⟨ln, rfl⟩ := Int.eq_ofNat_of_zero_le (show 0 ≤ n by omega)
        rw [Int.toNat_natCast] at HE
        have hn1 : 1 ≤ ln := by omega
        have hn2 : ln ≤ 40 := by omega
        clear hn
        go_enter Tryd.func24, Tryd.ntmps24
        go_wp2_with fail
        refine (validBlocks_any _ B _ HW.out).mono ?_
        rintro e w1 ⟨rfl, b1⟩
        go_wp2_with fail
        refine (within_any _ _ _ _).mono ?_
        rintro e w2 ⟨rfl, rfl⟩
        go_wp2_with fail
        refine (validKnown_any _ K _ (HU.out.below b1)).mono ?_
        rintro e w2 ⟨rfl, rfl⟩
        go_wp2_with fail
        refine (pagesOf_any v u B ln K _ (HW.out.below b1) (HU.out.below b1) (HT.out.below b1) hok hn1 hn2 hk).mono ?_
        rintro e w3 ⟨g, rfl, og, b3⟩
        have hlo := b1.size
        have B3 := b1.trans (b3.mono hlo)
        clear b3
        go_wp2_with fail
        refine (labelPages_any v g B (pagesF B ln K B.length) _ (HW.out.below B3) og.sl hok (pagesF_len ..)).mono ?_
        rintro e w4 ⟨g4, rfl, o4, b4⟩
        have B4 := B3.trans (b4.mono B3.size)
        have o5 : SlI w4 g4 (nextF B ln K) := o4.sl
        clear b4 B3 og o4
        go_wp2_with fail
        refine (slicesEq_any g4 u (nextF B ln K) K _ o5 (HU.out.below B4)).mono ?_
        rintro e w5 ⟨n5, rfl, rfl⟩
        have B5 := blwD B4 n5
        clear B4 o5
        go_wp2_with fail
        go_ret
        rw [HE.out]
        exact ⟨rfl, B5⟩
    · have hd : decide (1 ≤ n ∧ n ≤ 40) = false := decide_eq_false hn
      have HE : Hid (chkR B n K = false) := Lib.hid (by unfold chkR; rw [hd, Bool.and_false]; rfl)
      clear hn
      go_enter Tryd.func24, Tryd.ntmps24
      go_wp2_with fail
      refine (validBlocks_any _ B _ HW.out).mono ?_
      rintro e w1 ⟨rfl, b1⟩
      go_wp2_with fail
      refine (within_any _ _ _ _).mono ?_
      rintro e w2 ⟨rfl, rfl⟩
      go_wp2_with fail
      go_ret
      rw [HE.out]
      exact ⟨rfl, b1⟩


theorem schkR_any (v u : Value) (B : List Blk) (n : Int) (K : List Int) (w : World) (h : SlB w v B) (hu : SlI w u K) :
    Calls Tryd.prog 23 #[v, .int .i64 n, u] w fun e w' => e = .returned (.bool (chkR B n K)) ∧ Below w.heap.size w w' := by
  have HW := Lib.hid h
  have HU := Lib.hid hu
  clear h hu
  cases hok : okB B with
  | false =>
    have HE : Hid (chkR B n K = false) := Lib.hid (by unfold chkR; rw [hok]; rfl)
    go_enter Tryd.func23, Tryd.ntmps23
    go_wp2_with fail
    refine (svalidBlocks_any _ B _ HW.out).mono ?_
    rintro e w1 ⟨n1, rfl, hw1⟩
    have b1 : Below w.heap.size w w1 := hw1 ▸ blwD (Below.refl _ _) n1
    clear hw1
    go_wp2_with fail
    go_ret
    rw [HE.out]
    exact ⟨rfl, b1⟩
  | true =>
    by_cases hn : 1 ≤ n ∧ n ≤ 40
    · have hd : decide (1 ≤ n ∧ n ≤ 40) = true := decide_eq_true hn
      cases hk : okK K with
      | false =>
        have HE : Hid (chkR B n K = false) := Lib.hid (by unfold chkR; rw [hk, Bool.and_false]; rfl)
        clear hn
        go_enter Tryd.func23, Tryd.ntmps23
        go_wp2_with fail
        refine (svalidBlocks_any _ B _ HW.out).mono ?_
        rintro e w1 ⟨n1, rfl, hw1⟩
        have b1 : Below w.heap.size w w1 := hw1 ▸ blwD (Below.refl _ _) n1
        clear hw1
        go_wp2_with fail
        refine (inRange_any _ _ _ _).mono ?_
        rintro e w2 ⟨rfl, rfl⟩
        go_wp2_with fail
        refine (svalidKnown_any _ K _ (HU.out.below b1)).mono ?_
        rintro e w2 ⟨rfl, rfl⟩
        go_wp2_with fail
        go_ret
        rw [HE.out]
        exact ⟨rfl, b1⟩
      | true =>
        have HE : Hid (chkR B n K = decide (nextF B n.toNat K = K)) := Lib.hid (by unfold chkR; rw [hok, hd, hk]; rfl)
        obtain ⟨ln, rfl⟩ := Int.eq_ofNat_of_zero_le (show 0 ≤ n by omega)
        rw [Int.toNat_natCast] at HE
        have hn1 : 1 ≤ ln := by omega
        have hn2 : ln ≤ 40 := by omega
        clear hn
        go_enter Tryd.func23, Tryd.ntmps23
        go_wp2_with fail
        refine (svalidBlocks_any _ B _ HW.out).mono ?_
        rintro e w1 ⟨n1, rfl, hw1⟩
        have b1 : Below w.heap.size w w1 := hw1 ▸ blwD (Below.refl _ _) n1
        clear hw1
        go_wp2_with fail
        refine (inRange_any _ _ _ _).mono ?_
        rintro e w2 ⟨rfl, rfl⟩
        go_wp2_with fail
        refine (svalidKnown_any _ K _ (HU.out.below b1)).mono ?_
        rintro e w2 ⟨rfl, rfl⟩
        go_wp2_with fail
        refine (spagesOf_any v u B ln K _ (HW.out.below b1) (HU.out.below b1) hok hn1 hn2 hk).mono ?_
        rintro e w3 ⟨g, rfl, og, b3⟩
        have hlo := b1.size
        have B3 := b1.trans (b3.mono hlo)
        clear b3
        go_wp2_with fail
        refine (slabelPages_any v g B (pagesF B ln K B.length) _ (HW.out.below B3) og.sl hok (pagesF_len ..)).mono ?_
        rintro e w4 ⟨g4, rfl, o4, b4⟩
        have B4 := B3.trans (b4.mono B3.size)
        have o5 : SlI w4 g4 (nextF B ln K) := o4.sl
        clear b4 B3 og o4
        go_wp2_with fail
        refine (sameInts_any g4 u (nextF B ln K) K _ o5 (HU.out.below B4)).mono ?_
        rintro e w5 ⟨n5, rfl, rfl⟩
        have B5 := blwD B4 n5
        clear B4 o5
        go_wp2_with fail
        go_ret
        rw [HE.out]
        exact ⟨rfl, B5⟩
    · have hd : decide (1 ≤ n ∧ n ≤ 40) = false := decide_eq_false hn
      have HE : Hid (chkR B n K = false) := Lib.hid (by unfold chkR; rw [hd, Bool.and_false]; rfl)
      clear hn
      go_enter Tryd.func23, Tryd.ntmps23
      go_wp2_with fail
      refine (svalidBlocks_any _ B _ HW.out).mono ?_
      rintro e w1 ⟨n1, rfl, hw1⟩
      have b1 : Below w.heap.size w w1 := hw1 ▸ blwD (Below.refl _ _) n1
      clear hw1
      go_wp2_with fail
      refine (inRange_any _ _ _ _).mono ?_
      rintro e w2 ⟨rfl, rfl⟩
      go_wp2_with fail
      go_ret
      rw [HE.out]
      exact ⟨rfl, b1⟩


end Go.Proofs.YtgppljadkpoklaaDoor
