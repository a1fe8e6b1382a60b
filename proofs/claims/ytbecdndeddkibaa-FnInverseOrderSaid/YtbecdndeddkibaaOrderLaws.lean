/- The laws over orders: each holds for every code. -/
import Derived.Test.YtbecdndeddkibaaOrderLaw
import Derived.Test.YtbecdndeddkibaaDrawOrder
import Derived.Test.YtbecdndeddkibaaInvPlain
namespace Go.Proofs.Ytbecdndeddkibaa
open Go.RowKit
set_option maxHeartbeats 1000000
set_option maxRecDepth 100000

theorem orderOf_walk (a : Option Addr) (len cap : Nat) (zs : List Int) (w : World) (h : RowIn .u8 w a len cap zs) :
    Calls Try.prog 7 #[.slice a len cap] w fun e w' => e = .returned (.bool true) ∧ Below w.heap.size w w' := by
  have hm := h.len_le.1
  unfold maxLen at hm
  have HR := Lib.hid h; clear h
  by_cases hl : 1048576 < len
  · go_enter Try.func7, Try.ntmps7
    go_wp2
    go_ret
    exact ⟨rfl, Below.refl _ _⟩
  · go_enter Try.func7, Try.ntmps7
    go_wp2_with fail
    refine (drawOrderOf_any a len cap zs _ HR.out).mono ?_
    rintro e w1 ⟨vl, L, hL, rfl, ol, b1⟩
    have B1 := b1
    clear b1
    go_wp2_with fail
    refine (orderOf_any vl L _ ol.sl).mono ?_
    rintro e w2 ⟨vo, rfl, oo, b2⟩
    have B2 := B1.trans (b2.mono B1.size)
    have ol := ol.below b2
    go_wp2_with fail
    refine (sorderOf_any vl L _ ol.sl).mono ?_
    rintro e w3 ⟨vs, rfl, os, b3⟩
    have B3 := B2.trans (b3.mono B2.size)
    have ol := ol.below b3
    have oo := oo.below b3
    go_wp2_with fail
    refine (equalInts_any vo vs _ _ _ oo.sl os.sl).mono ?_
    rintro e w4 ⟨n4, rfl, rfl⟩
    have B4 := below_drewN B3 n4
    have ol := ol.drewN n4
    have oo := oo.drewN n4
    clear os b2 b3
    obtain ⟨co, hvo⟩ : ∃ a c, vo = .slice a (natI (ordS L)).length c := by obtain ⟨a, c, e, _⟩ := oo.sl; exact ⟨a, c, e⟩
    obtain ⟨cp, rfl⟩ := hvo
    obtain ⟨cl, hvl⟩ : ∃ a c, vl = .slice a L.length c := by obtain ⟨a, c, e, _⟩ := ol.sl; exact ⟨a, c, e⟩
    obtain ⟨cq, rfl⟩ := hvl
    have hlen : (natI (ordS L)).length = (ordS L).length := by simp [natI]
    by_cases h0 : (ordS L).length = 0
    · rw [hlen, h0] at oo ⊢
      go_wp2_with fail
      refine (sorderOf_any _ L _ ol.sl).mono ?_
      rintro e w5 ⟨vs2, rfl, os, b5⟩
      have B5 := B4.trans (b5.mono B4.size)
      have oo := oo.below b5
      go_wp2_with fail
      refine (equalInts_any _ vs2 _ _ _ oo.sl os.sl).mono ?_
      rintro e w6 ⟨n6, rfl, rfl⟩
      go_wp2_with fail
      go_ret
      exact ⟨rfl, below_drewN B5 n6⟩
    · have hok : okL L = true := by
        cases h : okL L with
        | true => rfl
        | false => rw [ordS_no h] at h0; simp at h0
      have hp := ordS_perm L hok
      have hll : (ordS L).length = L.length := by have := hp.length_eq; simpa using this
      have hI := invS_perm (ordS L) (by rw [hll]; exact hp) (ordS_len L)
      have hlt : ∀ i, i < (ordS L).length → (ordS L).getD i 0 < (ordS L).length := by
        intro i hi
        have hm : (ordS L).getD i 0 ∈ ordS L := by
          rw [List.getD_eq_getElem?_getD, List.getElem?_eq_getElem hi]
          exact List.getElem_mem _
        have := List.mem_range.1 (hp.mem_iff.1 hm)
        omega
      have HI := Lib.hid hI
      have HLt := Lib.hid hlt
      have HSl := Lib.hid (show SlI (w3.drewN n4) _ _ from oo.sl)
      clear hp hI hlt hok
      rw [hlen] at oo ⊢
      rw [hll] at HI HLt h0 oo ⊢
      have hne : ((L.length : Int) == 0) = false := by rw [beq_eq_false_iff_ne]; omega
      go_wp2_with fail
      refine (inverse_any _ _ _ oo.sl).mono ?_
      rintro e w5 ⟨vb, rfl, ob, b5⟩
      have B5 := B4.trans (b5.mono B4.size)
      have oo := oo.below b5
      have HO := Lib.hid oo.sl
      have HB := Lib.hid ob.sl
      obtain ⟨cb, hvb⟩ : ∃ a c, vb = .slice a L.length c := by obtain ⟨a, c, e, _⟩ := ob.sl; rw [HI.out.1] at e; exact ⟨a, c, e⟩
      obtain ⟨cr, rfl⟩ := hvb
      clear ol ob b5 oo HSl hlen hll
      generalize hn : L.length = n at *
      clear hn
      go_wp2_with fail
      go_loop [6] (fun i => ∃ k : Nat, k ≤ n ∧ i = .int .i64 k) (fun i => n - (intOf i).toNat)
      case atStart => exact ⟨0, by omega, rfl⟩
      case round =>
        obtain ⟨k, hk, rfl⟩ := hrel
        by_cases hlt : k < n
        · obtain ⟨b, off, rfl, _, hc⟩ := HO.out.cells (by omega)
          obtain ⟨b', off', rfl, _, hc'⟩ := HB.out.cells (by omega)
          have hx := HLt.out k hlt
          have hv := HI.out.2 k hlt
          have c0 := hc k hlt
          have c1 := hc' _ hx
          rw [hv] at c1
          rw [show (natI (ordS L)).getD k 0 = (((ordS L).getD k 0 : Nat) : Int) by simp only [natI, List.getD_eq_getElem?_getD, List.getElem?_map]; cases (ordS L)[k]? <;> rfl] at c0
          clear hc hc' hv
          generalize (ordS L).getD k 0 = x at *
          have he : ((k : Int) != (k : Int)) = false := by simp
          go_wp2_with fail
          go_round
          case rel => exact ⟨k + 1, by omega, by go_num⟩
          case measure => simp [intOf]; omega
        · obtain rfl : k = n := by omega
          go_wp2_with fail
          go_ret
          exact ⟨rfl, B5⟩
end Go.Proofs.Ytbecdndeddkibaa
