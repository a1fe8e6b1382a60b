/- The program's functions of columns return what the reference's return; they leave their arguments alone and share no memory. -/
import Derived.Test.YtncbllhgkkkhoaaChk
namespace Go.Proofs.Ytncbllhgkkkhoaa
open Go.RowKit
set_option maxHeartbeats 1000000
set_option maxRecDepth 100000

theorem exactColumnsNeeded_walk (a : Option Addr) (len cap : Nat) (zs : List Int) (h : Int) (w : World) (hr : RowIn .i64 w a len cap zs) :
    Calls Try.prog 4 #[.slice a len cap, .int .i64 h] w fun e w' => e = .returned (.bool true) ∧ Below w.heap.size w w' := by
  have hm := hr.len_le.1
  unfold maxLen at hm
  by_cases hl : 1048576 < len
  · clear hr
    go_enter Try.func4, Try.ntmps4
    go_wp2
    go_ret
    exact ⟨rfl, Below.refl _ _⟩
  · have hs := hr.sl
    have hlen : (zs.take len).length = len := by have := hr.len_le; rw [List.length_take]; omega
    generalize zs.take len = L at *
    have hL : L.length ≤ 1048576 := by omega
    have hnn : (needI L h != needI L h) = false := by simp
    clear hr hlen
    go_enter Try.func4, Try.ntmps4
    go_wp2_with fail
    refine (toIntS_any _ L _ hL hs).mono ?_
    rintro e w1 ⟨v1, rfl, o1, b1⟩
    go_wp2_with (go_at_call 17; refine (scolumnsNeeded_all v1 L h _ o1.sl).mono ?_; rintro e w' ⟨rfl, rfl⟩)
    refine (toIntS_any _ L _ hL (hs.below b1)).mono ?_
    rintro e w2 ⟨x0, rfl, ox, b2⟩
    have B2 := b1.trans (b2.mono b1.size)
    clear o1 b1 b2
    go_wp2_with fail
    refine (columnsNeeded_any x0 L h _ ox.sl).mono ?_
    rintro e w3 ⟨rfl, b3⟩
    have B3 := B2.trans (b3.mono B2.size)
    have ox := ox.below b3
    clear b3 B2
    go_wp2_with fail
    refine (toIntS_any _ L _ hL (hs.below B3)).mono ?_
    rintro e w4 ⟨y, rfl, oy, b4⟩
    have B4 := B3.trans (b4.mono B3.size)
    have ox := ox.below b4
    clear b4 B3
    go_wp2_with fail
    refine (eqIntS_any x0 y L L _ ox.sl oy.sl).mono ?_
    rintro e w5 ⟨n5, rfl, rfl⟩
    have B5 := below_drewN B4 n5
    go_wp2_with fail
    go_ret
    exact ⟨rfl, B5⟩

theorem exactBalancedHeight_walk (a : Option Addr) (len cap : Nat) (zs : List Int) (c : Int) (w : World) (hr : RowIn .i64 w a len cap zs) :
    Calls Try.prog 6 #[.slice a len cap, .int .i64 c] w fun e w' => e = .returned (.bool true) ∧ Below w.heap.size w w' := by
  have hm := hr.len_le.1
  unfold maxLen at hm
  by_cases hl : 1048576 < len
  · clear hr
    go_enter Try.func6, Try.ntmps6
    go_wp2
    go_ret
    exact ⟨rfl, Below.refl _ _⟩
  · have hs := hr.sl
    have hlen : (zs.take len).length = len := by have := hr.len_le; rw [List.length_take]; omega
    generalize zs.take len = L at *
    have hL : L.length ≤ 1048576 := by omega
    have hnn : (balI L c != balI L c) = false := by simp
    clear hr hlen
    go_enter Try.func6, Try.ntmps6
    go_wp2_with fail
    refine (toIntS_any _ L _ hL hs).mono ?_
    rintro e w1 ⟨v1, rfl, o1, b1⟩
    go_wp2_with (go_at_call 20; refine (sbalancedHeight_any v1 L c _ o1.sl).mono ?_; rintro e w' ⟨rfl, rfl⟩)
    refine (toIntS_any _ L _ hL (hs.below b1)).mono ?_
    rintro e w2 ⟨x0, rfl, ox, b2⟩
    have B2 := b1.trans (b2.mono b1.size)
    clear o1 b1 b2
    go_wp2_with fail
    refine (balancedHeight_any x0 L c _ ox.sl).mono ?_
    rintro e w3 ⟨rfl, b3⟩
    have B3 := B2.trans (b3.mono B2.size)
    have ox := ox.below b3
    clear b3 B2
    go_wp2_with fail
    refine (toIntS_any _ L _ hL (hs.below B3)).mono ?_
    rintro e w4 ⟨y, rfl, oy, b4⟩
    have B4 := B3.trans (b4.mono B3.size)
    have ox := ox.below b4
    clear b4 B3
    go_wp2_with fail
    refine (eqIntS_any x0 y L L _ ox.sl oy.sl).mono ?_
    rintro e w5 ⟨n5, rfl, rfl⟩
    have B5 := below_drewN B4 n5
    go_wp2_with fail
    go_ret
    exact ⟨rfl, B5⟩

theorem exactCheckColumns_walk (a : Option Addr) (len cap : Nat) (zs : List Int) (a' : Option Addr) (len' cap' : Nat) (zs' : List Int) (w : World) (hr : RowIn .i64 w a len cap zs) (hr' : RowIn .i64 w a' len' cap' zs') :
    Calls Try.prog 3 #[.slice a len cap, .slice a' len' cap'] w fun e w' => e = .returned (.bool true) ∧ Below w.heap.size w w' := by
  have hm := hr.len_le.1
  have hm' := hr'.len_le.1
  unfold maxLen at hm hm'
  by_cases hl : 1048576 < len
  · clear hr hr'
    go_enter Try.func3, Try.ntmps3
    go_wp2
    go_ret
    exact ⟨rfl, Below.refl _ _⟩
  · by_cases hl' : 1048576 < len'
    · clear hr hr'
      go_enter Try.func3, Try.ntmps3
      go_wp2
      go_ret
      exact ⟨rfl, Below.refl _ _⟩
    · have hs := hr.sl
      have hlen : (zs.take len).length = len := by have := hr.len_le; rw [List.length_take]; omega
      have hs' := hr'.sl
      have hlen' : (zs'.take len').length = len' := by have := hr'.len_le; rw [List.length_take]; omega
      generalize zs.take len = L at *
      generalize zs'.take len' = E at *
      have hL : L.length ≤ 1048576 := by omega
      have hE : E.length ≤ 1048576 := by omega
      have hnn : (chkN L E != chkN L E) = false := by simp
      have hbb : (chkB L E != chkB L E) = false := by simp
      clear hr hr' hlen hlen'
      go_enter Try.func3, Try.ntmps3
      go_wp2_with fail
      refine (toIntS_any _ L _ hL hs).mono ?_
      rintro e w1 ⟨v1, rfl, o1, b1⟩
      go_wp2_with fail
      refine (toIntS_any _ E _ hE (hs'.below b1)).mono ?_
      rintro e w2 ⟨v2, rfl, o2, b2⟩
      have o1 := o1.below b2
      have B2 := b1.trans (b2.mono b1.size)
      clear b1 b2
      go_wp2_with (go_at_call 13; refine (scheckColumns_any v1 v2 L E _ o1.sl o2.sl).mono ?_; rintro e w' ⟨rfl, rfl⟩)
      refine (toIntS_any _ L _ hL (hs.below B2)).mono ?_
      rintro e w3 ⟨x0, rfl, ox, b3⟩
      have B3 := B2.trans (b3.mono B2.size)
      clear o1 o2 b3 B2
      go_wp2_with fail
      refine (toIntS_any _ E _ hE (hs'.below B3)).mono ?_
      rintro e w4 ⟨x1, rfl, ox1, b4⟩
      have B4 := B3.trans (b4.mono B3.size)
      have ox := ox.below b4
      clear b4 B3
      go_wp2_with (go_at_call 15; refine (checkColumns_any x0 x1 L E _ ox.sl ox1.sl).mono ?_; rintro e w' ⟨rfl, rfl⟩)
      refine (toIntS_any _ L _ hL (hs.below B4)).mono ?_
      rintro e w5 ⟨y, rfl, oy, b5⟩
      have B5 := B4.trans (b5.mono B4.size)
      have ox := ox.below b5
      have ox1 := ox1.below b5
      clear b5 B4
      go_wp2_with fail
      refine (eqIntS_any x0 y L L _ ox.sl oy.sl).mono ?_
      rintro e w6 ⟨n6, rfl, rfl⟩
      have B6 := below_drewN B5 n6
      have ox1 := ox1.drewN n6
      clear B5 oy ox
      go_wp2_with fail
      refine (toIntS_any _ E _ hE (hs'.below B6)).mono ?_
      rintro e w7 ⟨y1, rfl, oy1, b7⟩
      have B7 := B6.trans (b7.mono B6.size)
      have ox1 := ox1.below b7
      clear b7 B6
      go_wp2_with fail
      refine (eqIntS_any x1 y1 E E _ ox1.sl oy1.sl).mono ?_
      rintro e w8 ⟨n8, rfl, rfl⟩
      have B8 := below_drewN B7 n8
      go_wp2_with fail
      go_ret
      exact ⟨rfl, B8⟩

theorem exactBalanceColumns_walk (a : Option Addr) (len cap : Nat) (zs : List Int) (c : Int) (w : World) (h : RowIn .i64 w a len cap zs) :
    Calls Try.prog 10 #[.slice a len cap, .int .i64 c] w fun e w' => e = .returned (.bool true) ∧ Below w.heap.size w w' := by
  have hm := h.len_le.1
  unfold maxLen at hm
  by_cases hl : 1048576 < len
  · clear h
    go_enter Try.func10, Try.ntmps10
    go_wp2
    go_ret
    exact ⟨rfl, Below.refl _ _⟩
  · have hs := h.sl
    have hlen : (zs.take len).length = len := by have := h.len_le; rw [List.length_take]; omega
    generalize zs.take len = L at *
    have hR : (balE L c).length ≤ 40 := balE_len L c
    generalize hRR : balE L c = R at *
    have HR := Lib.hid hRR
    have HL := Lib.hid hlen
    have hL : L.length ≤ 1048576 := by omega
    have hk : decide ((1 : Int) + L.length < 0) = false := by simp; omega
    have hk2 : decide ((1 : Int) + R.length < 0) = false := by simp; omega
    clear h hRR hlen
    go_enter Try.func10, Try.ntmps10
    go_wp2_with fail
    refine (toIntS_any _ L _ hL hs).mono ?_
    rintro e w1 ⟨v1, rfl, o1, b1⟩
    have B1 := b1
    go_wp2_with fail
    refine (sbalanceColumns_any v1 L c _ o1.sl).mono ?_
    rintro e w2 ⟨vw, rfl, ow, b2⟩
    rw [HR.out] at ow
    have B2 := B1.trans (b2.mono B1.size)
    clear o1 b1
    go_wp2_with fail
    refine (toIntS_any _ L _ hL (hs.below B2)).mono ?_
    rintro e w3 ⟨x0, rfl, ox, b3⟩
    have B3 := B2.trans (b3.mono B2.size)
    have ow := ow.below b3
    clear b2
    go_wp2_with fail
    refine (balanceColumns_any x0 L c _ ox.sl).mono ?_
    rintro e w4 ⟨g0, rfl, og, b4⟩
    rw [HR.out] at og
    have B4 := B3.trans (b4.mono B3.size)
    have ow := ow.below b4
    have ox := ox.below b4
    go_wp2_with fail
    refine (eqIntS_any g0 vw R R _ og.sl ow.sl).mono ?_
    rintro e w5 ⟨n5, rfl, rfl⟩
    have B5 := below_drewN B4 n5
    have ow := ow.drewN n5
    have ox := ox.drewN n5
    have og := og.drewN n5
    go_wp2_with fail
    refine (toIntS_any _ L _ hL (hs.below B5)).mono ?_
    rintro e w6 ⟨y, rfl, oy, b6⟩
    have B6 := B5.trans (b6.mono B5.size)
    have ow := ow.below b6
    have ox := ox.below b6
    have og := og.below b6
    go_wp2_with fail
    refine (eqIntS_any x0 y L L _ ox.sl oy.sl).mono ?_
    rintro e w7 ⟨n7, rfl, rfl⟩
    have B7 := below_drewN B6 n7
    have ow := ow.drewN n7
    have ox := ox.drewN n7
    have og := og.drewN n7
    clear oy
    go_wp2_with fail
    refine (markIntS_any _ _ x0 L 1 _ (by omega) (by omega) ox).mono ?_
    rintro e w8 ⟨rfl, ox8, g8⟩
    have B8 := B7.grown g8 B7.size (fun k hk => by have := (ox.row.lt k hk).1; have := B2.size; omega)
    have ow := ow.beside ox g8 (.inl (Nat.le_refl _))
    have og := og.beside ox g8 (.inr (Nat.le_refl _))
    clear ox ox8
    go_wp2_with fail
    refine (eqIntS_any g0 vw R R _ og.sl ow.sl).mono ?_
    rintro e w9 ⟨n9, rfl, rfl⟩
    have B9 := below_drewN B8 n9
    have ow := ow.drewN n9
    have og := og.drewN n9
    go_wp2_with fail
    refine (markIntS_any _ _ g0 R 1 _ (by omega) (by omega) og).mono ?_
    rintro e w10 ⟨rfl, og10, g10⟩
    have B10 := B9.grown g10 B9.size (fun k hk => by have := (og.row.lt k hk).1; have := B3.size; omega)
    have ow := ow.beside og g10 (.inl b3.size)
    clear og
    go_wp2_with fail
    refine (heldIntS_any g0 1 R.length _ (by omega) (by omega) og10.sl).mono ?_
    rintro e w11 ⟨rfl, rfl⟩
    go_wp2_with fail
    refine (toIntS_any _ L _ hL (hs.below B10)).mono ?_
    rintro e w12 ⟨y, rfl, oy, b12⟩
    have B12 := B10.trans (b12.mono B10.size)
    have ow := ow.below b12
    have og := og10.below b12
    clear og10
    go_wp2_with fail
    refine (balanceColumns_any y L c _ oy.sl).mono ?_
    rintro e w13 ⟨h0, rfl, oh, b13⟩
    rw [HR.out] at oh
    have B13 := B12.trans (b13.mono B12.size)
    have ow := ow.below b13
    have og := og.below b13
    clear oy
    go_wp2_with fail
    refine (eqIntS_any h0 vw R R _ oh.sl ow.sl).mono ?_
    rintro e w14 ⟨n14, rfl, rfl⟩
    have B14 := below_drewN B13 n14
    have og := og.drewN n14
    go_wp2_with fail
    refine (heldIntS_any g0 1 R.length _ (by omega) (by omega) og.sl).mono ?_
    rintro e w15 ⟨rfl, rfl⟩
    go_wp2_with fail
    go_ret
    exact ⟨rfl, B14⟩
end Go.Proofs.Ytncbllhgkkkhoaa
