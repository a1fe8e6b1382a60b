/- The law of levels one higher: it holds for every code. -/
import Derived.Test.YtbecdndeddkibaaOrderLaws2
import Derived.Test.YtbecdndeddkibaaOrderFacts2
namespace Go.Proofs.Ytbecdndeddkibaa
open Go.RowKit
set_option maxHeartbeats 1000000
set_option maxRecDepth 100000

theorem orderTwice_walk (a : Option Addr) (len cap : Nat) (zs : List Int) (w : World) (h : RowIn .u8 w a len cap zs) :
    Calls Try.prog 5 #[.slice a len cap] w fun e w' => e = .returned (.bool true) ∧ Below w.heap.size w w' := by
  have hm := h.len_le.1
  unfold maxLen at hm
  have HR := Lib.hid h; clear h
  by_cases hl : 1048576 < len
  · go_enter Try.func5, Try.ntmps5
    go_wp2
    go_ret
    exact ⟨rfl, Below.refl _ _⟩
  · go_enter Try.func5, Try.ntmps5
    go_wp2_with fail
    refine (drawOrderOf_any a len cap zs _ HR.out).mono ?_
    rintro e w1 ⟨vl, L, hL, rfl, ol, b1⟩
    have B1 := b1
    clear b1
    go_wp2_with fail
    refine (orderOf_any vl L _ ol.sl).mono ?_
    rintro e w2 ⟨vo, rfl, oo, b2⟩
    have B2 := B1.trans (b2.mono B1.size)
    have ol := ol.below b2
    go_wp2_with fail
    refine (sorderOf_any vl L _ ol.sl).mono ?_
    rintro e w3 ⟨vs, rfl, os, b3⟩
    have B3 := B2.trans (b3.mono B2.size)
    have ol := ol.below b3
    have oo := oo.below b3
    go_wp2_with fail
    refine (equalInts_any vo vs _ _ _ oo.sl os.sl).mono ?_
    rintro e w4 ⟨n4, rfl, rfl⟩
    have B4 := below_drewN B3 n4
    have ol := ol.drewN n4
    have oo := oo.drewN n4
    clear os b2 b3
    obtain ⟨co, cp, rfl⟩ := slice_of oo
    obtain ⟨cl, cq, rfl⟩ := slice_of ol
    have hlen : (natI (ordS L)).length = (ordS L).length := by simp [natI]
    by_cases h0 : (ordS L).length = 0
    · rw [hlen, h0] at oo ⊢
      go_wp2_with fail
      refine (sorderOf_any _ L _ ol.sl).mono ?_
      rintro e w5 ⟨vs2, rfl, os, b5⟩
      have B5 := B4.trans (b5.mono B4.size)
      have oo := oo.below b5
      go_wp2_with fail
      refine (equalInts_any _ vs2 _ _ _ oo.sl os.sl).mono ?_
      rintro e w6 ⟨n6, rfl, rfl⟩
      go_wp2_with fail
      go_ret
      exact ⟨rfl, below_drewN B5 n6⟩
    · have hll := ordS_okLen L (ordS_ne L h0)
      rw [hll] at h0 hlen
      rw [hlen] at oo ⊢
      generalize w3.drewN n4 = W4 at *
      have hok := ordS_ne L (by omega)
      have hU := ordS_up L hok (by omega)
      have hA := okL_at hok
      clear hlen hok
      have HOl := Lib.hid ol
      have HOo := Lib.hid oo
      have HUp := Lib.hid hU
      have HAt := Lib.hid hA.2
      have HLL := Lib.hid hll
      have HSn := Lib.hid (upL_snoc L)
      have HUl : Hid ((upL L).length = L.length) := Lib.hid (by simp [upL])
      have HT0 : Hid (upL (L.take 0) = []) := Lib.hid (by simp [upL])
      have HTn : Hid (upL (L.take L.length) = upL L) := Lib.hid (by simp)
      have HS := Lib.hid ol.sl
      clear ol oo hU hA hll
      generalize hn : L.length = n at *
      have hne : ((n : Int) == 0) = false := by rw [beq_eq_false_iff_ne]; omega
      have HN := Lib.hid hn
      clear hn
      have HO : Hid ((W4.alloc (.cells #[] 3)).ownsRow W4.heap.size 3 1 (.slice (some ⟨W4.heap.size, 0, none⟩) 0 0) 0 ((upL (L.take 0)).map (Value.int .i64))) := by
        rw [HT0.out]
        exact World.ownsRow_lit W4 #[] 0 (Nat.le_refl _) (Nat.zero_le _) rfl
      have HB : Hid (Below W4.heap.size W4 (W4.alloc (.cells #[] 3))) := (Below.refl _ _).alloc (Nat.le_refl _) _
      go_wp2_with fail
      go_loopw [5, 6] (fun v i wr => ∃ k : Nat, k ≤ n ∧ i = .int .i64 k ∧ Hid (Below W4.heap.size W4 wr) ∧ Hid (∀ j, j < k → L.getD j 0 ≠ 6) ∧ Hid (wr.ownsRow W4.heap.size 3 1 v k ((upL (L.take k)).map (Value.int .i64)))) (fun _ i _ => n - (intOf i).toNat)
      case atStart => exact ⟨0, by omega, rfl, HB, Lib.hid (fun j hj => by omega), HO⟩
      case round =>
        clear HB HO HT0
        obtain ⟨k, hk, rfl, HB, HP, HO⟩ := hrel
        by_cases hkn : k < n
        · have hs := HS.out.below HB.out
          obtain ⟨b, off, rfl, _, hc⟩ := hs.cells (by omega)
          have c0 := hc k hkn
          have hx := HAt.out k hkn
          have HP1 : Hid (L.getD k 0 ≠ 6 → ∀ j, j < k + 1 → L.getD j 0 ≠ 6) := Lib.hid (fun h j hj => by
            by_cases e : j = k
            · subst e; exact h
            · exact HP.out j (by omega))
          have HSk := Lib.hid (HSn.out k hkn)
          clear hs hc HP
          generalize L.getD k 0 = x at *
          by_cases h6 : x = 6
          · subst h6
            have BB := B4.trans (HB.out.mono B4.size)
            clear HP1 HSk B4
            go_wp2_with fail
            go_ret
            exact ⟨rfl, BB⟩
          · have h6' : (x == 6) = false := by simpa using h6
            have HP2 := Lib.hid (HP1.out h6)
            clear h6 HP1
            go_wp2_with (at_builtin; go_must (refine wpList_append_int rfl _ _ rfl W4.heap.size _ k (upL (L.take k)) (x + 1) HO.out rfl rfl (by omega) HB.out.size ?_))
            intro v' w' h1 h2
            have HB2 : Hid (Below W4.heap.size W4 w') := HB.out.grown h2 HB.out.size (fun j hj => (HO.out.lt j hj).1)
            have HO2 : Hid (w'.ownsRow W4.heap.size 3 1 v' (k + 1) ((upL (L.take (k + 1))).map (Value.int .i64))) := Lib.hid (by rw [HSk.out]; simpa using h1)
            clear h1 h2 HB HO HSk c0
            go_wp2_with fail
            go_roundw
            case rel => exact ⟨k + 1, by omega, by go_num, HB2, HP2, HO2⟩
            case measure => simp [intOf]; omega
        · obtain rfl : k = n := by omega
          rw [HTn.out] at HO
          have hou := own_of HO.out HUl.out
          have hE := HUp.out HP.out
          have oo := HOo.out.below HB.out
          have B5 := B4.trans (HB.out.mono B4.size)
          clear HO HP HAt HSn HTn
          go_wp2_with fail
          refine (orderOf_any _ _ _ hou.sl).mono ?_
          rintro e w6 ⟨va, rfl, oa, b6⟩
          rw [hE] at oa
          have B6 := B5.trans (b6.mono B5.size)
          have oo := oo.below b6
          clear hE hou B5 B4 b6 HUp
          obtain ⟨ca, cr, rfl⟩ := slice_of oa
          have hl1 : (natI (ordS L)).length = k := by have := HLL.out; simp [natI]; omega
          have hl2 : (natI (ordS L).reverse).length = k := by have := HLL.out; simp [natI]; omega
          have HR1 : Hid (∀ j, j < k → (natI (ordS L).reverse).getD j 0 = (natI (ordS L)).getD (k - 1 - j) 0) := by
            have hl := HLL.out
            intro j hj
            rw [getD_natI, getD_natI]
            congr 1
            rw [List.getD_eq_getElem?_getD, List.getElem?_reverse (by omega), List.getD_eq_getElem?_getD, hl]
          have HA := oa.sl
          have HBb := oo.sl
          have HCap : ∃ M : List Int, M.length = k ∧ M = natI (ordS L) := ⟨_, hl1, rfl⟩
          rw [hl2] at HA ⊢
          have HA := Lib.hid HA
          have HBb := Lib.hid HBb
          clear oa oo hl1 hl2 HCap
          generalize natI (ordS L).reverse = M1 at *
          generalize natI (ordS L) = M2 at *
          have hnn : ((k : Int) != (k : Int)) = false := by simp
          go_wp2_with fail
          go_loopw [8] (fun i wr => ∃ j q : Nat, j ≤ k ∧ i = .int .i64 j ∧ wr = w6.drewN q) (fun i _ => k - (intOf i).toNat)
          case atStart => exact ⟨0, 0, by omega, rfl, rfl⟩
          case round =>
            obtain ⟨j, q, hj, rfl, rfl⟩ := hrel
            by_cases hjk : j < k
            · obtain ⟨b, off, rfl, _, hc⟩ := HA.out.cells (by omega)
              obtain ⟨b', off', rfl, _, hc'⟩ := HBb.out.cells (by omega)
              have c0 := hc j hjk
              have c1 := hc' (k - 1 - j) (by omega)
              rw [HR1.out j hjk] at c0
              clear hc hc'
              generalize M2.getD (k - 1 - j) 0 = z at *
              have s1 : IntKind.i64.wrap ((k : Int) - 1) = (k : Int) - 1 := IntWalk.i64_in _ (by omega)
              have s2 : IntKind.i64.wrap ((k : Int) - 1 - (j : Int)) = (k : Int) - 1 - (j : Int) := IntWalk.i64_in _ (by omega)
              have s3 : (k : Int) - 1 - (j : Int) = ((k - 1 - j : Nat) : Int) := by omega
              rw [s3] at s2
              have hzz : (z != z) = false := by simp
              have hle : 0 ≤ (k : Int) - 1 := by omega
              have hlt2 : k - 1 - j < k := by omega
              go_wp2_with fail
              go_quiet (fail)
              clear s1 s2 s3
              go_wp2_with fail
              go_roundw
              case rel => exact ⟨j + 1, _, by omega, by go_num, rfl⟩
              case measure => simp [intOf]; omega
            · obtain rfl : j = k := by omega
              have BB := below_drewN B6 q
              clear B6
              go_wp2_with fail
              go_ret
              exact ⟨rfl, BB⟩
end Go.Proofs.Ytbecdndeddkibaa
