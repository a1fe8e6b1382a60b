/- Drawn pages, and the drawn texts of pages. -/
import Derived.Test.YtckmkjkckadfjaaDoorDrawCols2
import Derived.Test.YtckmkjkckadfjaaDoorMutate
import Derived.Test.YtckmkjkckadfjaaDoorPagS
import Derived.Test.YtckmkjkckadfjaaDoorIdxMem
namespace Go.Proofs.YtckmkjkckadfjaaDoor
open Go.RowKit
set_option maxHeartbeats 2000000
set_option maxRecDepth 100000
set_option linter.unusedVariables false

theorem someNumbers_any (rb P : Nat) (w : World) (hP : P ≤ 800000) (hR : Rdr w rb P) :
    Calls Tryd.prog 16 #[.pointer (some ⟨rb, 0, none⟩)] w (DrewR rb (P + 20) 14 w) := by
  have hrb := hR.lies
  have HO : Hid ((w.alloc (.cells #[] 3)).ownsRow w.heap.size 3 1 (.slice (some ⟨w.heap.size, 0, none⟩) 0 0) 0 (([] : List Int).map (Value.int .i64))) :=
    World.ownsRow_lit w #[] 0 (Nat.le_refl _) (Nat.zero_le _) rfl
  have hb2 : Below w.heap.size w (w.alloc (.cells #[] 3)) := (Below.refl _ _).alloc (Nat.le_refl _) _
  have HR2 := Lib.hid (hR.below hb2)
  have HK2 := Lib.hid (Keeps.of_below hrb hb2)
  clear hb2 hR
  go_enter Tryd.func16, Tryd.ntmps16
  go_wp2_with fail
  go_loopw [3, 4] (fun v i wr => ∃ (k : Nat) (L : List Int) (x : Value), x = v ∧ i = .int .i64 ((k : Int) + 1) ∧ k ≤ 13 ∧ L.length ≤ k ∧ Hid (Rdr wr rb (P + k)) ∧ Hid (Keeps rb w wr) ∧ Hid (wr.ownsRow w.heap.size 3 1 x L.length (L.map (Value.int .i64)))) (fun _ i _ => 14 - (intOf i).toNat)
  case atStart => exact ⟨0, [], _, rfl, rfl, by omega, by simp, HR2, HK2, HO⟩
  case round =>
    clear HO HK2 HR2
    obtain ⟨k, L, v, rfl, rfl, hkn, hkl, HR, HK, HO⟩ := hrel
    obtain ⟨av, cv, rfl⟩ := row_shape HO.out
    by_cases hk : k < 13
    · have hle : decide ((k : Int) + 1 < 14) = true := decide_eq_true (by omega)
      go_wp2_with fail
      refine (pick_pos rb (P + k) 3 _ (by omega) (by omega) HR.out).mono ?_
      rintro e w3 ⟨x, hx, rfl, hR3, hK3⟩
      have HO3 := Lib.hid (owns_keeps HO.out hK3 hrb)
      have HK3 := Lib.hid (HK.out.trans hK3)
      have hl3 : w.heap.size ≤ w3.heap.size := Nat.le_trans HK.out.below.size hK3.below.size
      have HR3 := Lib.hid hR3
      clear hK3 hR3 HO HK HR
      by_cases hx0 : 0 < x
      · have hxe : decide (0 < x) = true := decide_eq_true hx0
        go_wp2_with (at_builtin; go_must (refine wpList_append_int rfl _ _ rfl w.heap.size _ L.length L ((k : Int) + 1) HO3.out rfl rfl (by omega) hl3 ?_))
        intro v' w4 hown' hgrow
        have HR4 := Lib.hid (HR3.out.grown hgrow (fun j hj => by have := (HO3.out.lt j hj).1; omega)).1
        have HK4 := Lib.hid (HK3.out.grown hgrow hrb (fun j hj => (HO3.out.lt j hj).1))
        have HO4 : Hid (w4.ownsRow w.heap.size 3 1 v' (L ++ [(k : Int) + 1]).length ((L ++ [(k : Int) + 1]).map (Value.int .i64))) := Lib.hid (by simpa using hown')
        clear hown' hgrow HK3 HR3 HO3
        go_wp2_with fail
        go_roundw
        case rel => exact ⟨k + 1, L ++ [(k : Int) + 1], _, rfl, by go_num, by omega, by simp; omega, Lib.hid (HR4.out.mono (by omega)), HK4, HO4⟩
        case measure => simp [intOf]; omega
      · have hxe : decide (0 < x) = false := decide_eq_false hx0
        go_wp2_with fail
        go_roundw
        case rel => exact ⟨k + 1, L, _, rfl, by go_num, by omega, by omega, Lib.hid (HR3.out.mono (by omega)), HK3, HO3⟩
        case measure => simp [intOf]; omega
    · obtain rfl : k = 13 := by omega
      go_wp2_with fail
      refine (pick_pos rb (P + 13) 12 _ (by omega) (by omega) HR.out).mono ?_
      rintro e w3 ⟨x, hx, rfl, hR3, hK3⟩
      have HO3 := Lib.hid (owns_keeps HO.out hK3 hrb)
      have HK3 := Lib.hid (HK.out.trans hK3)
      have hl3 : w.heap.size ≤ w3.heap.size := Nat.le_trans HK.out.below.size hK3.below.size
      have HR3 := Lib.hid hR3
      clear hK3 hR3 HO HK HR
      by_cases hx0 : x = 0
      · subst hx0
        go_wp2_with fail
        refine (one_lit rb (P + 13 + 1) [4000, 3999, 1] w3 _ (by simp) (by simp) (by omega) HR3.out).mono ?_
        rintro e w4 ⟨z, hz, rfl, hR4, hK4⟩
        have HO4 := Lib.hid (owns_keeps HO3.out hK4 hrb)
        have HK4 := Lib.hid (HK3.out.trans hK4)
        have hl4 : w.heap.size ≤ w4.heap.size := Nat.le_trans hl3 hK4.below.size
        have HR4 := Lib.hid hR4
        clear hz hK4 hR4 HK3 HR3 HO3
        go_wp2_with (at_builtin; go_must (refine wpList_append_int rfl _ _ rfl w.heap.size _ L.length L z HO4.out rfl rfl (by omega) hl4 ?_))
        intro v' w5 hown' hgrow
        have HR5 := Lib.hid (HR4.out.grown hgrow (fun j hj => by have := (HO4.out.lt j hj).1; omega)).1
        have HK5 := Lib.hid (HK4.out.grown hgrow hrb (fun j hj => (HO4.out.lt j hj).1))
        have HO5 : Hid (w5.ownsRow w.heap.size 3 1 v' (L ++ [z]).length ((L ++ [z]).map (Value.int .i64))) := Lib.hid (by simpa using hown')
        clear hown' hgrow HK4 HR4 HO4
        go_wp2_with fail
        go_ret
        exact ⟨_, L ++ [z], by simp; omega, rfl, own_rowD HO5.out rfl, HR5.out.mono (by omega), HK5.out⟩
      · have hxe : ((x : Int) == 0) = false := by simpa using hx0
        by_cases hx1 : x = 1
        · subst hx1
          have HLit : Hid ((w3.alloc (.cells #[] 3)).ownsRow w.heap.size 3 1 (.slice (some ⟨w3.heap.size, 0, none⟩) 0 0) 0 (([] : List Int).map (Value.int .i64))) :=
            World.ownsRow_lit w3 #[] 0 hl3 (Nat.zero_le _) rfl
          have hb4 : Below w3.heap.size w3 (w3.alloc (.cells #[] 3)) := (Below.refl _ _).alloc (Nat.le_refl _) _
          have HR4 := Lib.hid (HR3.out.below hb4)
          have HK4 := Lib.hid (HK3.out.trans (Keeps.of_below HR3.out.lies hb4))
          clear hb4
          go_wp2_with fail
          go_ret
          exact ⟨_, [], by simp, rfl, own_rowD HLit.out rfl, HR4.out.mono (by omega), HK4.out⟩
        · have hxe1 : ((x : Int) == 1) = false := by rw [beq_eq_false_iff_ne]; omega
          go_wp2_with fail
          go_ret
          exact ⟨_, L, by omega, rfl, own_rowD HO3.out rfl, HR3.out.mono (by omega), HK3.out⟩

/-- What FnPagesText draws. -/
def DrewL (m : Nat) (w : World) (e : Ending) (w' : World) : Prop := ∃ (v : Value) (L : List Int), L.length ≤ m ∧ e = .returned v ∧ SlI w' v L ∧ Below w.heap.size w w'
theorem drawFormatPages_any (a : Option Addr) (len cap : Nat) (zs : List Int) (w : World) (h : RowIn .u8 w a len cap zs) :
    Calls Tryd.prog 6 #[.slice a len cap] w (DrewL 14 w) := by
  have HR := Lib.hid h; clear h
  go_enter Tryd.func6, Tryd.ntmps6
  go_wp2_with fail
  refine (newReader_any a len cap zs _ HR.out).mono ?_
  rintro e w1 ⟨rfl, hR, hb⟩
  have HB := Lib.hid hb
  clear hb
  go_wp2_with fail
  refine (someNumbers_any w.heap.size 0 w1 (by omega) hR).mono ?_
  rintro e w2 ⟨v, L, hL, rfl, ho, _, hk⟩
  have HF : Hid (DrewL 14 w (.returned v) w2) := Lib.hid ⟨v, L, hL, rfl, ho.sl, HB.out.trans hk.below⟩
  clear ho hk hR
  go_wp2_with fail
  go_ret
  exact HF.out
end Go.Proofs.YtckmkjkckadfjaaDoor
