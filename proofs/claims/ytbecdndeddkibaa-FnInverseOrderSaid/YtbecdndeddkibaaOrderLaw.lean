/- The program's OrderOf gives what the reference's gives; it leaves its argument alone and shares no memory. -/
import Derived.Test.YtbecdndeddkibaaSOrderOf
namespace Go.Proofs.Ytbecdndeddkibaa
open Go.RowKit
set_option maxHeartbeats 1000000
set_option maxRecDepth 100000

theorem sorderOf_any (v : Value) (L : List Int) (w : World) (h : SlI w v L) :
    Calls Try.prog 9 #[v] w (GaveI (natI (ordS L)) w) := by
  have HW := Lib.hid h
  obtain ⟨a, cap, rfl, h1, h2, _⟩ := h
  unfold maxLen at h2
  have HC : Hid (∀ k, k < L.length → ∃ b off, a = some ⟨b, off, none⟩ ∧ b < w.heap.size ∧ ∀ j, j < L.length → w.cell? ⟨b, off + j, none⟩ = some (.int .i64 (L.getD j 0))) := fun k hk => HW.out.cells (by omega)
  have HBad := Lib.hid (fun k hk hx => ordS_no (okL_bad L k hk hx))
  have HLong : Hid (60 < L.length → ordS L = []) := fun hn => ordS_no (by unfold okL; simp; omega)
  have HGood : Hid (L.length ≤ 60 → (∀ k, k < L.length → 0 ≤ L.getD k 0 ∧ L.getD k 0 ≤ 6) → okL L = true) := okL_good L
  generalize hn : L.length = n at *
  clear hn
  go_enter Try.func9, Try.ntmps9
  go_wp2_with fail
  go_loop [3] (fun i => ∃ k : Nat, k ≤ n ∧ i = .int .i64 k ∧ Hid (∀ j, j < k → 0 ≤ L.getD j 0 ∧ L.getD j 0 ≤ 6)) (fun i => n - (intOf i).toNat)
  case atStart => exact ⟨0, by omega, rfl, fun j hj => by omega⟩
  case round =>
    obtain ⟨k, hk, rfl, HP⟩ := hrel
    by_cases hlt : k < n
    · obtain ⟨b, off, rfl, hb, hc⟩ := HC.out k hlt
      have c0 := hc k hlt
      have HB1 := Lib.hid (HBad.out k hlt)
      have HP1 : Hid (0 ≤ L.getD k 0 ∧ L.getD k 0 ≤ 6 → ∀ j, j < k + 1 → 0 ≤ L.getD j 0 ∧ L.getD j 0 ≤ 6) := by
        intro hx j hj
        by_cases hjk : j = k
        · subst hjk; exact hx
        · exact HP.out j (by omega)
      clear hc HP
      generalize L.getD k 0 = x at *
      by_cases hx : 0 ≤ x ∧ x ≤ 6
      · have hd : decide (0 ≤ x ∧ x ≤ 6) = true := by simpa using hx
        have HP2 := Lib.hid (HP1.out hx)
        clear HP1 hx
        go_wp2_with (go_at_call 22; refine (inRange_any _ _ _ _).mono ?_; rintro e w' ⟨rfl, rfl⟩)
        go_round
        case rel => exact ⟨k + 1, by omega, by go_num, HP2⟩
        case measure => simp [intOf]; omega
      · have hd : decide (0 ≤ x ∧ x ≤ 6) = false := by simpa using hx
        have HF := Lib.hid (HB1.out hx)
        clear hx HP1 HB1
        go_wp2_with (go_at_call 22; refine (inRange_any _ _ _ _).mono ?_; rintro e w' ⟨rfl, rfl⟩)
        go_ret
        rw [HF.out]
        exact ⟨_, rfl, own_nil _ _ _ (Nat.le_refl _), Below.refl _ _⟩
    · obtain rfl : k = n := by omega
      by_cases hl : 60 < k
      · have HF := Lib.hid (HLong.out hl)
        go_wp2_with fail
        go_ret
        rw [HF.out]
        exact ⟨_, rfl, own_nil _ _ _ (Nat.le_refl _), Below.refl _ _⟩
      · have HO := Lib.hid (HGood.out (by omega) HP.out)
        go_wp2_with fail
        refine (reorder_any _ L _ HW.out HO.out).mono ?_
        rintro e w1 ⟨v, rfl, ho, hb⟩
        go_wp2_with fail
        go_ret
        exact ⟨v, rfl, ho, hb⟩

theorem exactOrderOf_walk (a : Option Addr) (len cap : Nat) (zs : List Int) (w : World) (h : RowIn .i64 w a len cap zs) :
    Calls Try.prog 3 #[.slice a len cap] w fun e w' => e = .returned (.bool true) ∧ Below w.heap.size w w' := by
  have hm := h.len_le.1
  unfold maxLen at hm
  by_cases hl : 1048576 < len
  · clear h
    go_enter Try.func3, Try.ntmps3
    go_wp2
    go_ret
    exact ⟨rfl, Below.refl _ _⟩
  · have hs := h.sl
    have hlen : (zs.take len).length = len := by have := h.len_le; rw [List.length_take]; omega
    generalize zs.take len = L at *
    have hR : (natI (ordS L)).length ≤ 60 := by have := ordS_len L; simpa [natI] using this
    generalize hRR : natI (ordS L) = R at *
    have HR := Lib.hid hRR
    have HL := Lib.hid hlen
    have hL : L.length ≤ 1048576 := by omega
    have hk : decide ((1 : Int) + L.length < 0) = false := by simp; omega
    have hk2 : decide ((1 : Int) + R.length < 0) = false := by simp; omega
    clear h hRR hlen
    go_enter Try.func3, Try.ntmps3
    go_wp2_with fail
    refine (toIntS_any _ L _ hL hs).mono ?_
    rintro e w1 ⟨v1, rfl, o1, b1⟩
    have B1 := b1
    go_wp2_with fail
    refine (sorderOf_any v1 L _ o1.sl).mono ?_
    rintro e w2 ⟨vw, rfl, ow, b2⟩
    rw [HR.out] at ow
    have B2 := B1.trans (b2.mono B1.size)
    clear o1 b1
    go_wp2_with fail
    refine (toIntS_any _ L _ hL (hs.below B2)).mono ?_
    rintro e w3 ⟨x0, rfl, ox, b3⟩
    have B3 := B2.trans (b3.mono B2.size)
    have ow := ow.below b3
    clear b2
    go_wp2_with fail
    refine (orderOf_any x0 L _ ox.sl).mono ?_
    rintro e w4 ⟨g0, rfl, og, b4⟩
    rw [HR.out] at og
    have B4 := B3.trans (b4.mono B3.size)
    have ow := ow.below b4
    have ox := ox.below b4
    go_wp2_with fail
    refine (eqIntS_any g0 vw R R _ og.sl ow.sl).mono ?_
    rintro e w5 ⟨n5, rfl, rfl⟩
    have B5 := below_drewN B4 n5
    have ow := ow.drewN n5
    have ox := ox.drewN n5
    have og := og.drewN n5
    go_wp2_with fail
    refine (toIntS_any _ L _ hL (hs.below B5)).mono ?_
    rintro e w6 ⟨y, rfl, oy, b6⟩
    have B6 := B5.trans (b6.mono B5.size)
    have ow := ow.below b6
    have ox := ox.below b6
    have og := og.below b6
    go_wp2_with fail
    refine (eqIntS_any x0 y L L _ ox.sl oy.sl).mono ?_
    rintro e w7 ⟨n7, rfl, rfl⟩
    have B7 := below_drewN B6 n7
    have ow := ow.drewN n7
    have ox := ox.drewN n7
    have og := og.drewN n7
    clear oy
    go_wp2_with fail
    refine (markIntS_any _ _ x0 L 1 _ (by omega) (by omega) ox).mono ?_
    rintro e w8 ⟨rfl, ox8, g8⟩
    have B8 := B7.grown g8 B7.size (fun k hk => by have := (ox.row.lt k hk).1; have := B2.size; omega)
    have ow := ow.beside ox g8 (.inl (Nat.le_refl _))
    have og := og.beside ox g8 (.inr (Nat.le_refl _))
    clear ox ox8
    go_wp2_with fail
    refine (eqIntS_any g0 vw R R _ og.sl ow.sl).mono ?_
    rintro e w9 ⟨n9, rfl, rfl⟩
    have B9 := below_drewN B8 n9
    have ow := ow.drewN n9
    have og := og.drewN n9
    go_wp2_with fail
    refine (markIntS_any _ _ g0 R 1 _ (by omega) (by omega) og).mono ?_
    rintro e w10 ⟨rfl, og10, g10⟩
    have B10 := B9.grown g10 B9.size (fun k hk => by have := (og.row.lt k hk).1; have := B3.size; omega)
    have ow := ow.beside og g10 (.inl b3.size)
    clear og
    go_wp2_with fail
    refine (heldIntS_any g0 1 R.length _ (by omega) (by omega) og10.sl).mono ?_
    rintro e w11 ⟨rfl, rfl⟩
    go_wp2_with fail
    refine (toIntS_any _ L _ hL (hs.below B10)).mono ?_
    rintro e w12 ⟨y, rfl, oy, b12⟩
    have B12 := B10.trans (b12.mono B10.size)
    have ow := ow.below b12
    have og := og10.below b12
    clear og10
    go_wp2_with fail
    refine (orderOf_any y L _ oy.sl).mono ?_
    rintro e w13 ⟨h0, rfl, oh, b13⟩
    rw [HR.out] at oh
    have B13 := B12.trans (b13.mono B12.size)
    have ow := ow.below b13
    have og := og.below b13
    clear oy
    go_wp2_with fail
    refine (eqIntS_any h0 vw R R _ oh.sl ow.sl).mono ?_
    rintro e w14 ⟨n14, rfl, rfl⟩
    have B14 := below_drewN B13 n14
    have og := og.drewN n14
    go_wp2_with fail
    refine (heldIntS_any g0 1 R.length _ (by omega) (by omega) og.sl).mono ?_
    rintro e w15 ⟨rfl, rfl⟩
    go_wp2_with fail
    go_ret
    exact ⟨rfl, B14⟩
end Go.Proofs.Ytbecdndeddkibaa
