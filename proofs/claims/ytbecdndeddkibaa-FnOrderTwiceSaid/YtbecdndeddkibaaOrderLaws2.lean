/- The laws over plain and raised orders: each holds for every code. -/
import Derived.Test.YtbecdndeddkibaaOrderLaws
import Derived.Test.YtbecdndeddkibaaOrderFacts
namespace Go.Proofs.Ytbecdndeddkibaa
open Go.RowKit
set_option maxHeartbeats 1000000
set_option maxRecDepth 100000

theorem getD_natI (O : List Nat) (k : Nat) : (natI O).getD k 0 = ((O.getD k 0 : Nat) : Int) := by
  simp only [natI, List.getD_eq_getElem?_getD, List.getElem?_map]; cases O[k]? <;> rfl
theorem slice_of {lo hi : Nat} {w : World} {v : Value} {L : List Int} (h : OwnI lo hi w v L) : ∃ a c, v = .slice a L.length c := by
  obtain ⟨a, c, e, _⟩ := h.sl; exact ⟨a, c, e⟩
theorem ordS_ne (L : List Int) (h : ¬ (ordS L).length = 0) : okL L = true := by
  cases h1 : okL L with
  | true => rfl
  | false => rw [ordS_no h1] at h; simp at h
theorem ordS_okLen (L : List Int) (h : okL L = true) : (ordS L).length = L.length := by
  have := (ordS_perm L h).length_eq; simpa using this

theorem own_of {B : Nat} {w : World} {v : Value} {n : Nat} {L : List Int} (h : w.ownsRow B 3 1 v n (L.map (Value.int .i64))) (hn : L.length = n) : OwnI B w.heap.size w v L :=
  ⟨by rw [hn]; exact h, fun j hj => (h.lt j hj).2, Nat.le_refl _⟩

theorem orderPlain_walk (a : Option Addr) (len cap : Nat) (zs : List Int) (w : World) (h : RowIn .u8 w a len cap zs) :
    Calls Try.prog 4 #[.slice a len cap] w fun e w' => e = .returned (.bool true) ∧ Below w.heap.size w w' := by
  have hm := h.len_le.1
  unfold maxLen at hm
  have HR := Lib.hid h; clear h
  by_cases hl : 1048576 < len
  · go_enter Try.func4, Try.ntmps4
    go_wp2
    go_ret
    exact ⟨rfl, Below.refl _ _⟩
  · go_enter Try.func4, Try.ntmps4
    go_wp2_with fail
    refine (drawOrderOf_any a len cap zs _ HR.out).mono ?_
    rintro e w1 ⟨vl, L, hL, rfl, ol, b1⟩
    have B1 := b1
    clear b1
    go_wp2_with fail
    refine (orderOf_any vl L _ ol.sl).mono ?_
    rintro e w2 ⟨vo, rfl, oo, b2⟩
    have B2 := B1.trans (b2.mono B1.size)
    have ol := ol.below b2
    go_wp2_with fail
    refine (sorderOf_any vl L _ ol.sl).mono ?_
    rintro e w3 ⟨vs, rfl, os, b3⟩
    have B3 := B2.trans (b3.mono B2.size)
    have ol := ol.below b3
    have oo := oo.below b3
    go_wp2_with fail
    refine (equalInts_any vo vs _ _ _ oo.sl os.sl).mono ?_
    rintro e w4 ⟨n4, rfl, rfl⟩
    have B4 := below_drewN B3 n4
    have ol := ol.drewN n4
    have oo := oo.drewN n4
    clear os b2 b3
    obtain ⟨co, cp, rfl⟩ := slice_of oo
    obtain ⟨cl, cq, rfl⟩ := slice_of ol
    have hlen : (natI (ordS L)).length = (ordS L).length := by simp [natI]
    by_cases h0 : (ordS L).length = 0
    · rw [hlen, h0] at oo ⊢
      go_wp2_with fail
      refine (sorderOf_any _ L _ ol.sl).mono ?_
      rintro e w5 ⟨vs2, rfl, os, b5⟩
      have B5 := B4.trans (b5.mono B4.size)
      have oo := oo.below b5
      go_wp2_with fail
      refine (equalInts_any _ vs2 _ _ _ oo.sl os.sl).mono ?_
      rintro e w6 ⟨n6, rfl, rfl⟩
      go_wp2_with fail
      go_ret
      exact ⟨rfl, below_drewN B5 n6⟩
    · have hll := ordS_okLen L (ordS_ne L h0)
      rw [hll] at h0 hlen
      rw [hlen] at oo ⊢
      generalize w3.drewN n4 = W4 at *
      have hZ := ordS_zeros L.length (by omega)
      have hO := ordS_ones L.length (by omega)
      clear hlen hll ol oo
      generalize L.length = n at *
      have hne : ((n : Int) == 0) = false := by rw [beq_eq_false_iff_ne]; omega
      have HO : Hid ((W4.alloc (.cells #[] 3)).ownsRow W4.heap.size 3 1 (.slice (some ⟨W4.heap.size, 0, none⟩) 0 0) 0 (([] : List Int).map (Value.int .i64))) :=
        World.ownsRow_lit W4 #[] 0 (Nat.le_refl _) (Nat.zero_le _) rfl
      have HB : Hid (Below W4.heap.size W4 (W4.alloc (.cells #[] 3))) := (Below.refl _ _).alloc (Nat.le_refl _) _
      go_wp2_with fail
      go_loopw [6, 7] (fun v i wr => ∃ k : Nat, k ≤ n ∧ i = .int .i64 k ∧ Hid (Below W4.heap.size W4 wr) ∧ Hid (wr.ownsRow W4.heap.size 3 1 v k ((List.replicate k (1 : Int)).map (Value.int .i64)))) (fun _ i _ => n - (intOf i).toNat)
      case atStart => exact ⟨0, by omega, rfl, HB, HO⟩
      case round =>
        clear HB HO
        obtain ⟨k, hk, rfl, HB, HO⟩ := hrel
        by_cases hkn : k < n
        · go_wp2_with (at_builtin; go_must (refine wpList_append_int rfl _ _ rfl W4.heap.size _ k (List.replicate k (1 : Int)) 1 HO.out rfl rfl (by omega) HB.out.size ?_))
          intro v' w' h1 h2
          have HB2 : Hid (Below W4.heap.size W4 w') := HB.out.grown h2 HB.out.size (fun j hj => (HO.out.lt j hj).1)
          have HO2 : Hid (w'.ownsRow W4.heap.size 3 1 v' (k + 1) ((List.replicate (k + 1) (1 : Int)).map (Value.int .i64))) := Lib.hid (by rw [List.replicate_succ']; simpa using h1)
          clear h1 h2 HB HO
          go_wp2_with fail
          go_roundw
          case rel => exact ⟨k + 1, by omega, by go_num, HB2, HO2⟩
          case measure => simp [intOf]; omega
        · obtain rfl : k = n := by omega
          obtain ⟨i0, hi, hz0, hz1, hz2⟩ := info_parts intInfo
          obtain ⟨w5, hmk, hown, hgrow⟩ := run_make_full (P := Try.prog) wr wr.heap.size 22 3 i0 (.int .i64 0) 1 Try.underlying22 hi hz0 hz1 .i64 .i64 k (by rw [hz2]; omega) (by unfold maxLen; omega) (Nat.le_refl _)
          have e0 : (madeCells (Value.int .i64 0).cells (k * 1)).toList = (List.replicate k (0 : Int)).map (Value.int .i64) := by
            show (madeCells #[Value.int .i64 0] _).toList = _
            rw [toList_madeCells_one]; simp
          rw [e0] at hown
          have hb5 : Below wr.heap.size wr w5 := (Below.refl _ _).grown hgrow (Nat.le_refl _) (fun k hk => by simp at hk)
          have oz := own_of hown (by simp)
          have o1 := own_of HO.out (by simp)
          have o1 := o1.below hb5
          have B5 : Below W4.heap.size W4 w5 := HB.out.trans (hb5.mono HB.out.size)
          clear hown hgrow HB HO hi hz0 hz1 hz2 e0 hb5
          go_wp2_with fail
          refine (orderOf_any _ _ _ oz.sl).mono ?_
          rintro e w6 ⟨va, rfl, oa, b6⟩
          have B6 := B5.trans (b6.mono B5.size)
          have o1 := o1.below b6
          clear oz b6 B5
          go_wp2_with fail
          refine (orderOf_any _ _ _ o1.sl).mono ?_
          rintro e w7 ⟨vb, rfl, ob, b7⟩
          have B7 := B6.trans (b7.mono B6.size)
          have oa := oa.below b7
          rw [hZ] at oa
          rw [hO] at ob
          clear o1 b7 B6
          have BB := B4.trans (B7.mono B4.size)
          obtain ⟨ca, cr, rfl⟩ := slice_of oa
          obtain ⟨cb, cs, rfl⟩ := slice_of ob
          rw [show (natI (List.range k)).length = k by simp [natI]] at oa ⊢
          rw [show (natI (List.range k).reverse).length = k by simp [natI]] at ob ⊢
          have HA := Lib.hid oa.sl
          have HBb := Lib.hid ob.sl
          clear oa ob B7 B4
          have hnn : ((k : Int) != (k : Int)) = false := by simp
          go_wp2_with fail
          go_loop [10] (fun i => ∃ j : Nat, j ≤ k ∧ i = .int .i64 j) (fun i => k - (intOf i).toNat)
          case atStart => exact ⟨0, by omega, rfl⟩
          case round =>
            obtain ⟨j, hj, rfl⟩ := hrel
            by_cases hjk : j < k
            · obtain ⟨b, off, rfl, _, hc⟩ := HA.out.cells (by omega)
              obtain ⟨b', off', rfl, _, hc'⟩ := HBb.out.cells (by omega)
              have c0 := hc j hjk
              have c1 := hc' j hjk
              rw [getD_natI, show (List.range k).getD j 0 = j by simp [List.getD_eq_getElem?_getD, hjk]] at c0
              rw [getD_natI, show (List.range k).reverse.getD j 0 = k - 1 - j by rw [List.getD_eq_getElem?_getD, List.getElem?_reverse (by simpa using hjk)]; simp [show k - 1 - j < k by omega]] at c1
              have he : ((j : Int) != (j : Int)) = false := by simp
              have hs : (((k - 1 - j : Nat) : Int) != (k : Int) - 1 - (j : Int)) = false := by simp; omega
              clear hc hc'
              go_wp2_with fail
              go_round
              case rel => exact ⟨j + 1, by omega, by go_num⟩
              case measure => simp [intOf]; omega
            · obtain rfl : j = k := by omega
              go_wp2_with fail
              go_ret
              exact ⟨rfl, BB⟩
end Go.Proofs.Ytbecdndeddkibaa
