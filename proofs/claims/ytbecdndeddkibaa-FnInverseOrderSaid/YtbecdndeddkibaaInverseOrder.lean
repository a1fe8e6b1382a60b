/- The law of inverse orders: it holds for every code. -/
import Derived.Test.YtbecdndeddkibaaDrawInverse
import Derived.Test.YtbecdndeddkibaaInvFacts
namespace Go.Proofs.Ytbecdndeddkibaa
open Go.RowKit
set_option maxHeartbeats 1000000
set_option maxRecDepth 100000

theorem inverseOrder_walk (a : Option Addr) (len cap : Nat) (zs : List Int) (w : World) (h : RowIn .u8 w a len cap zs) :
    Calls Try.prog 6 #[.slice a len cap] w fun e w' => e = .returned (.bool true) ∧ Below w.heap.size w w' := by
  have hm := h.len_le.1
  unfold maxLen at hm
  have HR := Lib.hid h; clear h
  by_cases hl : 1048576 < len
  · go_enter Try.func6, Try.ntmps6
    go_wp2
    go_ret
    exact ⟨rfl, Below.refl _ _⟩
  · go_enter Try.func6, Try.ntmps6
    go_wp2_with fail
    refine (drawInverseOrder_any a len cap zs _ HR.out).mono ?_
    rintro e w1 ⟨vl, L, hL, rfl, ol, b1⟩
    have B1 := b1
    clear b1
    go_wp2_with fail
    refine (inverse_any vl L _ ol.sl).mono ?_
    rintro e w2 ⟨vo, rfl, oo, b2⟩
    have B2 := B1.trans (b2.mono B1.size)
    have ol := ol.below b2
    go_wp2_with fail
    refine (sinverse_any vl L _ ol.sl).mono ?_
    rintro e w3 ⟨vs, rfl, os, b3⟩
    have B3 := B2.trans (b3.mono B2.size)
    have ol := ol.below b3
    have oo := oo.below b3
    go_wp2_with fail
    refine (equalInts_any vo vs _ _ _ oo.sl os.sl).mono ?_
    rintro e w4 ⟨n4, rfl, rfl⟩
    have B4 := below_drewN B3 n4
    have ol := ol.drewN n4
    have oo := oo.drewN n4
    clear os b2 b3
    obtain ⟨co, hvo⟩ : ∃ a c, vo = .slice a (invS L).length c := by obtain ⟨a, c, e, _⟩ := oo.sl; exact ⟨a, c, e⟩
    obtain ⟨cp, rfl⟩ := hvo
    by_cases h0 : (invS L).length = 0
    · rw [h0] at oo ⊢
      go_wp2_with fail
      refine (sinverse_any _ L _ ol.sl).mono ?_
      rintro e w5 ⟨vs2, rfl, os, b5⟩
      have B5 := B4.trans (b5.mono B4.size)
      have oo := oo.below b5
      go_wp2_with fail
      refine (equalInts_any _ vs2 _ _ _ oo.sl os.sl).mono ?_
      rintro e w6 ⟨n6, rfl, rfl⟩
      go_wp2_with fail
      go_ret
      exact ⟨rfl, below_drewN B5 n6⟩
    · have hT := Lib.hid (invS_twice L (fun e => h0 (by rw [e]; rfl)))
      have hne : (((invS L).length : Int) == 0) = false := by rw [beq_eq_false_iff_ne]; omega
      go_wp2_with fail
      refine (inverse_any _ _ _ oo.sl).mono ?_
      rintro e w5 ⟨vb, rfl, ob, b5⟩
      rw [hT.out] at ob
      have B5 := B4.trans (b5.mono B4.size)
      have ol := ol.below b5
      go_wp2_with fail
      refine (equalInts_any vb vl _ _ _ ob.sl ol.sl).mono ?_
      rintro e w6 ⟨n6, rfl, rfl⟩
      go_wp2_with fail
      go_ret
      exact ⟨rfl, below_drewN B5 n6⟩
end Go.Proofs.Ytbecdndeddkibaa
