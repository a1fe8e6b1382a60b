/- Drawn pages of labels; what the laws of PagesOf draw. -/
import Derived.Test.YtgppljadkpoklaaDoorDrawBlk2
namespace Go.Proofs.YtgppljadkpoklaaDoor
open Go.RowKit
set_option maxHeartbeats 2000000
set_option maxRecDepth 100000

def DrewS (rb m : Nat) (w : World) (e : Ending) (w' : World) : Prop := ∃ (v : Value) (L : List Int), L.length ≤ m ∧ e = .returned v ∧ SlI w' v L ∧ Keeps rb w w'
theorem somePages_any (rb P : Nat) (w : World) (hP : P ≤ 800000) (hR : Rdr w rb P) :
    Calls Tryd.prog 32 #[.pointer (some ⟨rb, 0, none⟩)] w (DrewS rb 10 w) := by
  have hrb := hR.lies
  have HO : Hid ((w.alloc (.cells #[] 3)).ownsRow w.heap.size 3 1 (.slice (some ⟨w.heap.size, 0, none⟩) 0 0) 0 (([] : List Int).map (Value.int .i64))) :=
    World.ownsRow_lit w #[] 0 (Nat.le_refl _) (Nat.zero_le _) rfl
  have hb2 : Below w.heap.size w (w.alloc (.cells #[] 3)) := (Below.refl _ _).alloc (Nat.le_refl _) _
  have HR3 := Lib.hid (hR.below hb2)
  have HK3 := Lib.hid (Keeps.of_below hrb hb2)
  clear hb2 hR
  go_enter Tryd.func32, Tryd.ntmps32
  go_wp2_with fail
  go_loopw [3, 4] (fun v i wr => ∃ (L : List Int) (x : Value), x = v ∧ i = .int .i64 L.length ∧ L.length ≤ 10 ∧ Hid (Rdr wr rb (P + L.length)) ∧ Hid (Keeps rb w wr) ∧ Hid (wr.ownsRow w.heap.size 3 1 x L.length (L.map (Value.int .i64)))) (fun _ i _ => 10 - (intOf i).toNat)
  case atStart => exact ⟨[], _, rfl, rfl, by simp, HR3, HK3, HO⟩
  case round =>
    clear HO HK3 HR3
    obtain ⟨L, x, rfl, rfl, hkl, HR, HK, HO⟩ := hrel
    by_cases hk : L.length < 10
    · have hd : decide ((L.length : Int) < 10) = true := decide_eq_true (by omega)
      have hd2 : decide (L.length < 10) = true := decide_eq_true hk
      go_wp2_with fail
      refine (one_lit rb (P + L.length) [0, 1, 3, 9, 10, 12, 100] wr _ (by simp) (by simp) (by omega) HR.out).mono ?_
      rintro e w3 ⟨z, hz, rfl, hR3, hK3⟩
      have hown := owns_keeps HO.out hK3 hrb
      have HK3 := Lib.hid (HK.out.trans hK3)
      have hl4 : w.heap.size ≤ w3.heap.size := Nat.le_trans HK.out.below.size hK3.below.size
      have HR3 := Lib.hid hR3
      clear hK3 hR3 HO HK HR hz hd hd2
      go_wp2_with (at_builtin; go_must (refine wpList_append_int rfl _ _ rfl w.heap.size _ L.length L z hown rfl rfl (by omega) hl4 ?_))
      intro v' w4 hown' hgrow
      have hR4 := (HR3.out.grown hgrow (fun j hj => by have := (hown.lt j hj).1; omega)).1
      have HK4 := Lib.hid (HK3.out.grown hgrow hrb (fun j hj => (hown.lt j hj).1))
      have HR4 := Lib.hid hR4
      have HO4 : Hid (w4.ownsRow w.heap.size 3 1 v' (L ++ [z]).length ((L ++ [z]).map (Value.int .i64))) := Lib.hid (by simpa using hown')
      clear hown hown' hgrow hR4 HK3 HR3
      go_wp2_with fail
      go_roundw
      case rel => exact ⟨L ++ [z], _, rfl, by simp, by simp; omega, Lib.hid (HR4.out.mono (by simp; omega)), HK4, HO4⟩
      case measure => simp [intOf]; omega
    · have hL : L.length = 10 := by omega
      have hd : decide ((L.length : Int) < 10) = false := decide_eq_false (by omega)
      have hd2 : decide (L.length < 10) = false := decide_eq_false hk
      rw [hL] at HO
      rcases HO.out.2 with ⟨_, h0⟩ | ⟨g, cp, cur, rfl, hg1, hg2, hg3, hg4, _⟩
      · omega
      · clear hg2
        unfold maxLen at hg4
        go_wp2_with fail
        refine (pick_pos rb (P + L.length) 14 _ (by omega) (by omega) HR.out).mono ?_
        rintro e w3 ⟨x, hx, rfl, hR3, hK3⟩
        have HO3 := Lib.hid (owns_keeps HO.out hK3 hrb)
        have HK3 := Lib.hid (HK.out.trans hK3)
        have HR3 := Lib.hid hR3
        clear hK3 hR3 HO HK HR hd hd2
        by_cases hx0 : x = 0
        · subst hx0
          go_wp2_with fail
          refine (one_lit rb (P + L.length + 1) [-1, 10001] w3 _ (by simp) (by simp) (by omega) HR3.out).mono ?_
          rintro e w4 ⟨z, hz, rfl, hR4, hK4⟩
          have hown := owns_keeps HO3.out hK4 hrb
          have HK4 := Lib.hid (HK3.out.trans hK4)
          have c0 : w4.cell? ⟨g, 0, none⟩ = some (.int .i64 (L.getD 0 0)) := by rw [hown.cellAt 0 (by omega)]; exact getD_map_int L 0 (by omega)
          have f0 : w4.frozen? ⟨g, 0, none⟩ = false := hown.frozenAt 0
          have HS := Lib.hid (hown.stored 0 (.int .i64 z))
          clear hz hK4 hR4 hown HK3 HR3 HO3
          generalize L.getD 0 0 = y at *
          go_wp2_with fail
          go_ret
          have h := HS.out.1
          rw [← List.map_set] at h
          exact ⟨_, L.set 0 z, by simp; omega, rfl, (own_rowD (L := L.set 0 z) h (by simp [hL])).sl, HK4.out.grown HS.out.2 hrb (fun j hj => by injection hj with hj; omega)⟩
        · have hxe : ((x : Int) == 0) = false := by simpa using hx0
          by_cases hx1 : x = 1
          · subst hx1
            have HOw := Lib.hid (own_rowD (L := L) HO3.out hL).sl
            have HS1 : Hid (SlI w3 (.slice (some ⟨g, 1, none⟩) 9 (cp - 1)) (L.drop 1)) := Lib.hid (by
              have hlt := (HO3.out.lt g rfl).2
              refine ⟨some ⟨g, 1, none⟩, cp - 1, by simp [hL], by simp [hL]; omega, by unfold maxLen; omega, .inr ⟨g, 1, rfl, hlt, fun i hi => ?_⟩⟩
              have hi2 : i < 9 := by simpa [hL] using hi
              rw [HO3.out.cellAt (1 + i) (by omega), getD_map_int L (1 + i) (by omega)]
              simp [List.getD_eq_getElem?_getD, Nat.add_comm])
            clear HO3 HOw
            go_wp2_with fail
            go_ret
            exact ⟨_, L.drop 1, by simp [hL], rfl, HS1.out, HK3.out⟩
          · have hxe1 : ((x : Int) == 1) = false := by rw [beq_eq_false_iff_ne]; omega
            have HOw := Lib.hid (own_rowD (L := L) HO3.out hL).sl
            go_wp2_with fail
            go_ret
            exact ⟨_, L, by omega, rfl, HOw.out, HK3.out⟩

def DrewBIL (w : World) (e : Ending) (w' : World) : Prop := ∃ (v u : Value) (B : List Blk) (z : Int) (K : List Int), B.length ≤ 8 ∧ K.length ≤ 10 ∧ e = .returned (.tuple #[v, .int .i64 z, u]) ∧ OwnB w.heap.size w'.heap.size w' v B ∧ SlI w' u K ∧ Below w.heap.size w w'
theorem drawPagesOf_any (a : Option Addr) (len cap : Nat) (zs : List Int) (w : World) (h : RowIn .u8 w a len cap zs) :
    Calls Tryd.prog 11 #[.slice a len cap] w (DrewBIL w) := by
  have HR := Lib.hid h; clear h
  go_enter Tryd.func11, Tryd.ntmps11
  go_wp2_with fail
  refine (newReader_any a len cap zs _ HR.out).mono ?_
  rintro e w1 ⟨rfl, hR, hb⟩
  have hlt : w.heap.size < w1.heap.size := hR.lies
  have HB := Lib.hid hb
  clear hb
  go_wp2_with fail
  refine (anyBlocks_any w.heap.size 0 _ (by omega) hR).mono ?_
  rintro e w2 ⟨v, B, hB, rfl, o2, hR2, hK2⟩
  have HB2 := Lib.hid (HB.out.trans hK2.below)
  have HO2 := Lib.hid o2
  clear o2 hK2 hR HB
  go_wp2_with fail
  refine (one_lit w.heap.size (0 + 52) [1, 2, 3, 10, 40, 0, 41] w2 _ (by simp) (by simp) (by omega) hR2).mono ?_
  rintro e w3 ⟨z, hz, rfl, hR3, hK3⟩
  have HB3 := Lib.hid (HB2.out.trans hK3.below)
  have HO3 : Hid (OwnB w1.heap.size w2.heap.size w3 v B) := Lib.hid (ownC_keeps HO2.out hK3 hlt)
  clear hK3 HO2 HB2 hz
  go_wp2_with fail
  refine (somePages_any w.heap.size (0 + 52 + 1) _ (by omega) hR3).mono ?_
  rintro e w4 ⟨u, K, hK, rfl, o4, hK4⟩
  have HB4 := Lib.hid (HB3.out.trans hK4.below)
  have HO4 : Hid (OwnB w.heap.size w4.heap.size w4 v B) := Lib.hid (OwnC.mono (ownC_keeps HO3.out hK4 hlt) (Nat.le_of_lt hlt) (Nat.le_trans HO3.out.fits hK4.below.size) (Nat.le_refl _))
  have HS4 := Lib.hid o4
  clear hK4 HB3 HO3 o4
  go_wp2_with fail
  first | go_ret3 | go_ret2
  exact ⟨v, u, B, z, K, hB, hK, rfl, HO4.out, HS4.out, HB4.out⟩
end Go.Proofs.YtgppljadkpoklaaDoor
