/- Drawn heights and ends: short lists of numbers. -/
import Derived.Test.YtncbllhgkkkhoaaEqualInts
namespace Go.Proofs.Ytncbllhgkkkhoaa
open Go.RowKit
set_option maxHeartbeats 1000000
set_option maxRecDepth 100000

theorem own_rowD {B : Nat} {w : World} {v : Value} {n : Nat} {L : List Int} (h : w.ownsRow B 3 1 v n (L.map (Value.int .i64))) (hn : L.length = n) : OwnI B w.heap.size w v L :=
  ⟨by rw [hn]; exact h, fun j hj => (h.lt j hj).2, Nat.le_refl _⟩
theorem Keeps.grown {rb : Nat} {w wr w' : World} {row : Option Nat} (h : Keeps rb w wr) (hg : wr.grownBy w' row) (hr : rb < w.heap.size) (hk : ∀ k, row = some k → w.heap.size ≤ k) : Keeps rb w w' :=
  ⟨h.below.grown hg (Nat.le_trans (Nat.le_of_lt hr) h.below.size) (fun k e => Nat.le_trans (Nat.le_of_lt hr) (hk k e)), fun i hi hn => (hg.block i (Nat.lt_of_lt_of_le hi h.below.size) (fun e => by have := hk i e.symm; omega)).trans (h.others i hi hn)⟩
/-- A short list of numbers, drawn. -/
def DrewR (rb P m : Nat) (w : World) (e : Ending) (w' : World) : Prop := ∃ (v : Value) (L : List Int), L.length ≤ m ∧ e = .returned v ∧ OwnI w.heap.size w'.heap.size w' v L ∧ Rdr w' rb P ∧ Keeps rb w w'

theorem someHeights_any (rb P : Nat) (w : World) (hP : P ≤ 800000) (hR : Rdr w rb P) :
    Calls Try.prog 41 #[.pointer (some ⟨rb, 0, none⟩)] w (DrewR rb (P + 20) 10 w) := by
  have hrb := hR.lies
  have HO : Hid ((w.alloc (.cells #[] 3)).ownsRow w.heap.size 3 1 (.slice (some ⟨w.heap.size, 0, none⟩) 0 0) 0 (([] : List Int).map (Value.int .i64))) :=
    World.ownsRow_lit w #[] 0 (Nat.le_refl _) (Nat.zero_le _) rfl
  have hb2 : Below w.heap.size w (w.alloc (.cells #[] 3)) := (Below.refl _ _).alloc (Nat.le_refl _) _
  have hR2 := hR.below hb2
  have HK2 := Lib.hid (Keeps.of_below hrb hb2)
  clear hb2 hR
  go_enter Try.func41, Try.ntmps41
  go_wp2_with fail
  refine (pick_pos rb P 11 _ (by omega) (by omega) hR2).mono ?_
  rintro e w2 ⟨c, hc, rfl, hR3, hK3⟩
  have HO3 := Lib.hid (owns_keeps HO.out hK3 hrb)
  have HK3 := Lib.hid (HK2.out.trans hK3)
  have HR3 := Lib.hid hR3
  clear HO HK2 hK3 hR3 hR2
  go_wp2_with fail
  go_loopw [3, 4] (fun v n wr => ∃ (k : Nat) (L : List Int), n = .int .i64 k ∧ k + L.length ≤ 10 ∧ Hid (Rdr wr rb (P + 1 + L.length)) ∧ Hid (Keeps rb w wr) ∧ Hid (wr.ownsRow w.heap.size 3 1 v L.length (L.map (Value.int .i64)))) (fun _ n _ => (intOf n).toNat)
  case atStart => exact ⟨c, [], rfl, by simp; omega, HR3, HK3, HO3⟩
  case round =>
    clear HO3 HK3 HR3 hc
    obtain ⟨k, L, rfl, hkl, HR, HK, HO⟩ := hrel
    by_cases hk : 0 < k
    · go_wp2_with fail
      refine (pick_pos rb (P + 1 + L.length) 9 _ (by omega) (by omega) HR.out).mono ?_
      rintro e w3 ⟨x, hx, rfl, hR3, hK3⟩
      have hown := owns_keeps HO.out hK3 hrb
      have HK3 := Lib.hid (HK.out.trans hK3)
      have hl3 := Nat.le_trans HK.out.below.size hK3.below.size
      have hl4 : w.heap.size ≤ w3.heap.size := Nat.le_trans HK.out.below.size hK3.below.size
      have HR3 := Lib.hid hR3
      clear hK3 hR3 HO HK HR
      go_wp2_with (at_builtin; go_must (refine wpList_append_int rfl _ _ rfl w.heap.size _ L.length L (1 + (x : Int)) hown rfl rfl (by omega) hl4 ?_))
      intro v' w4 hown' hgrow
      have hR4 := (HR3.out.grown hgrow (fun j hj => by have := (hown.lt j hj).1; omega)).1
      have HK4 := Lib.hid (HK3.out.grown hgrow hrb (fun j hj => (hown.lt j hj).1))
      have HR4 := Lib.hid hR4
      have HO4 : Hid (w4.ownsRow w.heap.size 3 1 v' (L ++ [1 + (x : Int)]).length ((L ++ [1 + (x : Int)]).map (Value.int .i64))) := Lib.hid (by simpa using hown')
      have HSub : Hid ((k : Int) - 1 = ((k - 1 : Nat) : Int)) := Lib.hid (by omega)
      clear hown hown' hgrow hR4 HK3 HR3
      go_wp2_with fail
      rw [HSub.out]
      go_roundw
      case rel => exact ⟨k - 1, L ++ [1 + (x : Int)], rfl, by simp; omega, Lib.hid (HR4.out.mono (by simp; omega)), HK4, HO4⟩
      case measure => simp [intOf]; omega
    · obtain rfl : k = 0 := by omega
      rcases HO.out.2 with ⟨rfl, h0⟩ | ⟨g, cp, cur, rfl, hg1, hg2, hg3, hg4, _⟩
      · have hL : L = [] := List.length_eq_zero_iff.1 h0
        subst hL
        have HOwn : Hid (OwnI w.heap.size wr.heap.size wr (.slice none 0 0) []) := Lib.hid (own_rowD HO.out rfl)
        go_wp2_with fail
        go_ret
        exact ⟨_, [], by simp, rfl, HOwn.out, HR.out.mono (by simp), HK.out⟩
      · clear hg2
        by_cases hn : L.length = 0
        · have HOwn : Hid (OwnI w.heap.size wr.heap.size wr (.slice (some ⟨g, 0, none⟩) L.length cp) L) := Lib.hid (own_rowD HO.out rfl)
          obtain rfl : L = [] := List.length_eq_zero_iff.1 hn
          clear hn
          go_wp2_with fail
          go_ret
          exact ⟨_, [], by simp, rfl, HOwn.out, HR.out.mono (by simp), HK.out⟩
        · have hd : decide ((0 : Int) < (L.length : Int)) = true := by simp; omega
          have hpos : 0 < L.length := by omega
          go_wp2_with fail
          refine (pick_pos rb (P + 1 + L.length) 14 _ (by omega) (by omega) HR.out).mono ?_
          rintro e w3 ⟨x, hx, rfl, hR3, hK3⟩
          have HO3 := Lib.hid (owns_keeps HO.out hK3 hrb)
          have HK3 := Lib.hid (HK.out.trans hK3)
          have HR3 := Lib.hid hR3
          clear hK3 hR3 HO HK HR hd hn
          by_cases hx0 : x = 0
          · subst hx0
            go_wp2_with fail
            have hb := Below.alloc (Below.refl w3.heap.size w3) (Nat.le_refl _) (.cells (([0, 1001, 1000] : List Int).map (Value.int .i64)).toArray 3)
            obtain ⟨zf, hzf⟩ : ∃ zf : Nat → Int, ∀ i, i < 3 → (w3.alloc (.cells (([0, 1001, 1000] : List Int).map (Value.int .i64)).toArray 3)).cell? ⟨w3.heap.size, 0 + i, none⟩ = some (.int .i64 (zf i)) := ⟨fun i => ([0, 1001, 1000] : List Int).getD i 0, fun i hi => new_row w3 _ _ i hi⟩
            refine (one_any rb (P + 1 + L.length + 1) w3.heap.size 0 3 3 zf _ (by omega) (by omega) (by omega) (HR3.out.below hb) (by simp) (by have := HR3.out.lies; omega) hzf).mono ?_
            rintro e w4 ⟨i, hi, rfl, hR4, hK4⟩
            have hown := owns_keeps (HO3.out.alloc (.cells (([0, 1001, 1000] : List Int).map (Value.int .i64)).toArray 3)) hK4 hrb
            have HK4 : Hid (Keeps rb w w4) := (HK3.out.trans (Keeps.of_below HR3.out.lies hb)).trans hK4
            have HR4 := Lib.hid hR4
            generalize zf i = z at *
            have c0 : w4.cell? ⟨g, 0, none⟩ = some (.int .i64 (L.getD 0 0)) := by rw [hown.cellAt 0 (by omega)]; exact getD_map_int L 0 hpos
            have f0 : w4.frozen? ⟨g, 0, none⟩ = false := hown.frozenAt 0
            have HS := Lib.hid (hown.stored 0 (.int .i64 z))
            clear hb hK4 hR4 hown hzf HK3 HR3 HO3
            generalize L.getD 0 0 = y at *
            go_wp2_with fail
            go_ret
            have hR5 := (HR4.out.grown HS.out.2 (fun j hj => by injection hj with hj; omega)).1
            refine ⟨_, L.set 0 z, by simp; omega, rfl, ?_, hR5.mono (by omega), HK4.out.grown HS.out.2 hrb (fun j hj => by injection hj with hj; omega)⟩
            have h := HS.out.1
            rw [← List.map_set] at h
            exact own_rowD (L := L.set 0 z) h (by simp)
          · have hxe : ((x : Int) == 0) = false := by simpa using hx0
            have HOwn : Hid (OwnI w.heap.size w3.heap.size w3 (.slice (some ⟨g, 0, none⟩) L.length cp) L) := Lib.hid (own_rowD HO3.out rfl)
            go_wp2_with fail
            go_ret
            exact ⟨_, L, by omega, rfl, HOwn.out, HR3.out.mono (by omega), HK3.out⟩

theorem someEnds_any (rb P : Nat) (n : Nat) (w : World) (hP : P ≤ 800000) (hn : n ≤ 40) (hR : Rdr w rb P) :
    Calls Try.prog 46 #[.pointer (some ⟨rb, 0, none⟩), .int .i64 n] w (DrewR rb (P + 100) 40 w) := by
  have hrb := hR.lies
  have HO : Hid ((w.alloc (.cells #[] 3)).ownsRow w.heap.size 3 1 (.slice (some ⟨w.heap.size, 0, none⟩) 0 0) 0 (([] : List Int).map (Value.int .i64))) :=
    World.ownsRow_lit w #[] 0 (Nat.le_refl _) (Nat.zero_le _) rfl
  have hb2 : Below w.heap.size w (w.alloc (.cells #[] 3)) := (Below.refl _ _).alloc (Nat.le_refl _) _
  have HR2 := Lib.hid (hR.below hb2)
  have HK2 := Lib.hid (Keeps.of_below hrb hb2)
  clear hb2 hR
  go_enter Try.func46, Try.ntmps46
  go_wp2_with fail
  go_loopw [5, 6] (fun v i wr => ∃ (k : Nat) (L : List Int), i = .int .i64 ((k : Int) + 1) ∧ k ≤ n ∧ L.length ≤ k ∧ Hid (Rdr wr rb (P + 2 * k)) ∧ Hid (Keeps rb w wr) ∧ Hid (wr.ownsRow w.heap.size 3 1 v L.length (L.map (Value.int .i64)))) (fun _ i _ => n + 1 - (intOf i).toNat)
  case atStart => exact ⟨0, [], rfl, by omega, by simp, HR2, HK2, HO⟩
  case round =>
    clear HO HK2 HR2
    obtain ⟨k, L, rfl, hkn, hkl, HR, HK, HO⟩ := hrel
    by_cases hk : k < n
    · have hle : decide ((k : Int) + 1 ≤ (n : Int)) = true := by simp; omega
      go_wp2_with fail
      refine (pick_pos rb (P + 2 * k) 3 _ (by omega) (by omega) HR.out).mono ?_
      rintro e w3 ⟨x, hx, rfl, hR3, hK3⟩
      have HO3 := Lib.hid (owns_keeps HO.out hK3 hrb)
      have HK3 := Lib.hid (HK.out.trans hK3)
      have hl3 : w.heap.size ≤ w3.heap.size := Nat.le_trans HK.out.below.size hK3.below.size
      have HR3 := Lib.hid hR3
      clear hK3 hR3 HO HK HR
      by_cases hx0 : x = 0
      · subst hx0
        go_wp2_with (at_builtin; go_must (refine wpList_append_int rfl _ _ rfl w.heap.size _ L.length L ((k : Int) + 1) HO3.out rfl rfl (by omega) hl3 ?_))
        intro v' w4 hown' hgrow
        have HR4 := Lib.hid (HR3.out.grown hgrow (fun j hj => by have := (HO3.out.lt j hj).1; omega)).1
        have HK4 := Lib.hid (HK3.out.grown hgrow hrb (fun j hj => (HO3.out.lt j hj).1))
        have HO4 : Hid (w4.ownsRow w.heap.size 3 1 v' (L ++ [(k : Int) + 1]).length ((L ++ [(k : Int) + 1]).map (Value.int .i64))) := Lib.hid (by simpa using hown')
        clear hown' hgrow HK3 HR3 HO3
        go_wp2_with fail
        go_roundw
        case rel => exact ⟨k + 1, L ++ [(k : Int) + 1], by go_num, by omega, by simp; omega, Lib.hid (HR4.out.mono (by omega)), HK4, HO4⟩
        case measure => simp [intOf]; omega
      · have hxe : ((x : Int) == 0) = false := by simpa using hx0
        by_cases hlast : k + 1 = n
        · have hle2 : ((k : Int) + 1 == (n : Int)) = true := by simp; omega
          go_wp2_with fail
          refine (pick_pos rb (P + 2 * k + 1) 6 _ (by omega) (by omega) HR3.out).mono ?_
          rintro e w4 ⟨y, hy, rfl, hR4, hK4⟩
          have HO4 := Lib.hid (owns_keeps HO3.out hK4 hrb)
          have HK4 := Lib.hid (HK3.out.trans hK4)
          have hl4 : w.heap.size ≤ w4.heap.size := Nat.le_trans hl3 hK4.below.size
          have HR4 := Lib.hid hR4
          clear hK4 hR4 HO3 HK3 HR3
          by_cases hy0 : 0 < y
          · go_wp2_with (at_builtin; go_must (refine wpList_append_int rfl _ _ rfl w.heap.size _ L.length L ((k : Int) + 1) HO4.out rfl rfl (by omega) hl4 ?_))
            intro v' w5 hown' hgrow
            have HR5 := Lib.hid (HR4.out.grown hgrow (fun j hj => by have := (HO4.out.lt j hj).1; omega)).1
            have HK5 := Lib.hid (HK4.out.grown hgrow hrb (fun j hj => (HO4.out.lt j hj).1))
            have HO5 : Hid (w5.ownsRow w.heap.size 3 1 v' (L ++ [(k : Int) + 1]).length ((L ++ [(k : Int) + 1]).map (Value.int .i64))) := Lib.hid (by simpa using hown')
            clear hown' hgrow HK4 HR4 HO4
            go_wp2_with fail
            go_roundw
            case rel => exact ⟨k + 1, L ++ [(k : Int) + 1], by go_num, by omega, by simp; omega, Lib.hid (HR5.out.mono (by omega)), HK5, HO5⟩
            case measure => simp [intOf]; omega
          · obtain rfl : y = 0 := by omega
            go_wp2_with fail
            go_roundw
            case rel => exact ⟨k + 1, L, by go_num, by omega, by omega, Lib.hid (HR4.out.mono (by omega)), HK4, HO4⟩
            case measure => simp [intOf]; omega
        · have hle2 : ((k : Int) + 1 == (n : Int)) = false := by rw [beq_eq_false_iff_ne]; omega
          go_wp2_with fail
          go_roundw
          case rel => exact ⟨k + 1, L, by go_num, by omega, by omega, Lib.hid (HR3.out.mono (by omega)), HK3, HO3⟩
          case measure => simp [intOf]; omega
    · obtain rfl : k = n := by omega
      have hle : decide ((k : Int) + 1 ≤ (k : Int)) = false := by simp; omega
      rcases HO.out.2 with ⟨rfl, h0⟩ | ⟨g, cp, cur, rfl, hg1, hg2, hg3, hg4, _⟩
      · have hL : L = [] := List.length_eq_zero_iff.1 h0
        subst hL
        have HOwn : Hid (OwnI w.heap.size wr.heap.size wr (.slice none 0 0) []) := Lib.hid (own_rowD HO.out rfl)
        go_wp2_with fail
        go_ret
        exact ⟨_, [], by simp, rfl, HOwn.out, HR.out.mono (by omega), HK.out⟩
      · clear hg2
        by_cases hn : L.length = 0
        · have HOwn : Hid (OwnI w.heap.size wr.heap.size wr (.slice (some ⟨g, 0, none⟩) L.length cp) L) := Lib.hid (own_rowD HO.out rfl)
          obtain rfl : L = [] := List.length_eq_zero_iff.1 hn
          clear hn
          go_wp2_with fail
          go_ret
          exact ⟨_, [], by simp, rfl, HOwn.out, HR.out.mono (by omega), HK.out⟩
        · have hd : decide ((0 : Int) < (L.length : Int)) = true := by simp; omega
          have hpos : 0 < L.length := by omega
          go_wp2_with fail
          refine (pick_pos rb (P + 2 * k) 12 _ (by omega) (by omega) HR.out).mono ?_
          rintro e w3 ⟨x, hx, rfl, hR3, hK3⟩
          have HO3 := Lib.hid (owns_keeps HO.out hK3 hrb)
          have HK3 := Lib.hid (HK.out.trans hK3)
          have HR3 := Lib.hid hR3
          clear hK3 hR3 HO HK HR hd hn
          by_cases hx0 : x = 0
          · subst hx0
            go_wp2_with fail
            have hb := Below.alloc (Below.refl w3.heap.size w3) (Nat.le_refl _) (.cells (([0, -1, (k : Int) + 1] : List Int).map (Value.int .i64)).toArray 3)
            obtain ⟨zf, hzf⟩ : ∃ zf : Nat → Int, ∀ i, i < 3 → (w3.alloc (.cells (([0, -1, (k : Int) + 1] : List Int).map (Value.int .i64)).toArray 3)).cell? ⟨w3.heap.size, 0 + i, none⟩ = some (.int .i64 (zf i)) := ⟨fun i => ([0, -1, (k : Int) + 1] : List Int).getD i 0, fun i hi => new_row w3 _ _ i hi⟩
            refine (one_any rb (P + 2 * k + 1) w3.heap.size 0 3 3 zf _ (by omega) (by omega) (by omega) (HR3.out.below hb) (by simp) (by have := HR3.out.lies; omega) hzf).mono ?_
            rintro e w4 ⟨i, hi, rfl, hR4, hK4⟩
            have hown := owns_keeps (HO3.out.alloc (.cells (([0, -1, (k : Int) + 1] : List Int).map (Value.int .i64)).toArray 3)) hK4 hrb
            have HK4 : Hid (Keeps rb w w4) := (HK3.out.trans (Keeps.of_below HR3.out.lies hb)).trans hK4
            have HR4 := Lib.hid hR4
            generalize zf i = z at *
            have c0 : w4.cell? ⟨g, 0, none⟩ = some (.int .i64 (L.getD 0 0)) := by rw [hown.cellAt 0 (by omega)]; exact getD_map_int L 0 hpos
            have f0 : w4.frozen? ⟨g, 0, none⟩ = false := hown.frozenAt 0
            have HS := Lib.hid (hown.stored 0 (.int .i64 z))
            clear hb hK4 hR4 hown hzf HK3 HR3 HO3
            generalize L.getD 0 0 = y at *
            go_wp2_with fail
            go_ret
            have hR5 := (HR4.out.grown HS.out.2 (fun j hj => by injection hj with hj; omega)).1
            refine ⟨_, L.set 0 z, by simp; omega, rfl, ?_, hR5.mono (by omega), HK4.out.grown HS.out.2 hrb (fun j hj => by injection hj with hj; omega)⟩
            have h := HS.out.1
            rw [← List.map_set] at h
            exact own_rowD (L := L.set 0 z) h (by simp)
          · have hxe : ((x : Int) == 0) = false := by simpa using hx0
            have HOwn : Hid (OwnI w.heap.size w3.heap.size w3 (.slice (some ⟨g, 0, none⟩) L.length cp) L) := Lib.hid (own_rowD HO3.out rfl)
            go_wp2_with fail
            go_ret
            exact ⟨_, L, by omega, rfl, HOwn.out, HR3.out.mono (by omega), HK3.out⟩
end Go.Proofs.Ytncbllhgkkkhoaa
