/- The program's FormatPages gives what the reference's gives; it leaves its argument alone. -/
import Derived.Test.YtflnbpiegcepcaaDoorPagI
import Derived.Test.YtflnbpiegcepcaaDoorInts2
namespace Go.Proofs.YtflnbpiegcepcaaDoor
open Go.RowKit
set_option maxHeartbeats 2000000
set_option maxRecDepth 100000
set_option linter.unusedVariables false

theorem exactFormatPages_walk (a : Option Addr) (len cap : Nat) (zs : List Int) (w : World) (h : RowIn .i64 w a len cap zs) (hT : Pow10 w) :
    Calls Tryd.prog 3 #[.slice a len cap] w fun e w' => e = .returned (.bool true) ∧ Below w.heap.size w w' := by
  have hm := h.len_le.1
  unfold maxLen at hm
  by_cases hl : 1048576 < len
  · clear h
    go_enter Tryd.func3, Tryd.ntmps3
    go_wp2
    go_ret
    exact ⟨rfl, Below.refl _ _⟩
  · have hs := h.sl
    have hlen : (zs.take len).length = len := by have := h.len_le; rw [List.length_take]; omega
    generalize zs.take len = L at *
    have hL : L.length ≤ 1048576 := by omega
    have HS := Lib.hid (fun v w h => sformatPages_any v L w h)
    have HI := Lib.hid (fun v w h hT => formatPages_any v L w h hT)
    have hss : ((fmtP L).toList != (fmtP L).toList) = false := by simp
    generalize fmtP L = s at *
    clear h hlen
    have HT := Lib.hid (fun w' (b : Below w.heap.size w w') => hT.below b)
    clear hT
    go_enter Tryd.func3, Tryd.ntmps3
    go_wp2_with fail
    refine (toIntS_any _ L _ hL hs).mono ?_
    rintro e w1 ⟨v1, rfl, o1, b1⟩
    have B1 := b1
    go_wp2_with fail
    refine (HS.out v1 w1 o1.sl).mono ?_
    rintro e w2 ⟨rfl, b2⟩
    have B2 := B1.trans (b2.mono B1.size)
    clear o1 b1
    go_wp2_with fail
    refine (toIntS_any _ L _ hL (hs.below B2)).mono ?_
    rintro e w3 ⟨x0, rfl, ox, b3⟩
    have B3 := B2.trans (b3.mono B2.size)
    go_wp2_with fail
    refine (HI.out x0 w3 ox.sl (HT.out _ B3)).mono ?_
    rintro e w4 ⟨rfl, b4⟩
    have B4 := B3.trans (b4.mono B3.size)
    have ox := ox.below b4
    go_wp2_with fail
    refine (toIntS_any _ L _ hL (hs.below B4)).mono ?_
    rintro e w5 ⟨y0, rfl, oy, b5⟩
    have B5 := B4.trans (b5.mono B4.size)
    have ox := ox.below b5
    go_wp2_with fail
    refine (eqIntS_any x0 y0 L L _ ox.sl oy.sl).mono ?_
    rintro e w6 ⟨n6, rfl, rfl⟩
    have B6 := bel_drewN B5 n6
    go_wp2_with fail
    go_ret
    exact ⟨rfl, B6⟩
end Go.Proofs.YtflnbpiegcepcaaDoor
