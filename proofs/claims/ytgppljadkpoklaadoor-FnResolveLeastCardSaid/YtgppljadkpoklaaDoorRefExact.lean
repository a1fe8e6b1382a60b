/- The program's PagesOf and CheckResolved return what the reference's return. -/
import Derived.Test.YtgppljadkpoklaaDoorRefChk
import Derived.Test.YtgppljadkpoklaaDoorBlkMem
namespace Go.Proofs.YtgppljadkpoklaaDoor
open Go.RowKit
set_option maxHeartbeats 2000000
set_option maxRecDepth 100000

theorem pagesS_len (B : List Blk) (n : Int) (K : List Int) : (pagesS B n K).length ≤ 20 := by
  unfold pagesS
  split
  · rename_i h
    rw [Bool.and_eq_true, Bool.and_eq_true] at h
    have := (okB_at h.1.1).1
    rw [pagesF_len]; omega
  · simp

def MarkedB (lo hi : Nat) (v : Value) (n : Nat) (m : Int) (w : World) (e : Ending) (w' : World) : Prop := e = .returned (.int .i64 m) ∧ ∃ C, OwnC 31 3 lo hi w' v n C ∧ w.grownBy w' v.ownBlock
/-- Marking every figure leaves a row of the call's own. -/
theorem markBlockS_any (lo hi : Nat) (v : Value) (B : List Blk) (k : Int) (w : World) (hk : 0 ≤ k) (hkn : k + 3 * B.length ≤ 1000000000) (h : OwnB lo hi w v B) :
    Calls Tryd.prog 20 #[v, .int .i64 k] w (MarkedB lo hi v B.length (k + 3 * B.length) w) := by
  have HW := Lib.hid (show OwnC 31 3 lo hi w v B.length (blkC B) from h)
  rcases h.row.2 with ⟨rfl, h0⟩ | ⟨g, cap, cur, rfl, h1, h2, h3, h4, h5, h6⟩
  · rw [h0] at HW hkn ⊢
    clear h h0
    go_enter Tryd.func20, Tryd.ntmps20
    go_wp2_with fail
    go_loop [1, 5] (fun t i => t = .int .i64 k ∧ i = .int .i64 0) (fun _ _ => 0)
    case atStart => exact ⟨rfl, rfl⟩
    case round =>
      obtain ⟨rfl, rfl⟩ := hrel
      go_wp2_with fail
      go_ret
      exact ⟨by simp, _, HW.out, World.grownBy.refl _ _⟩
  · clear h2 h5 h6 h
    unfold maxLen at h4
    have HT := Lib.hid (show g < hi from HW.out.top g rfl)
    have HG : Hid (w.grownBy w (some g)) := World.grownBy.refl _ _
    have HR : Hid (∃ C : List Value, C.length = B.length * 3 ∧ w.ownsRow lo 31 3 (.slice (some ⟨g, 0, none⟩) B.length cap) B.length C) := ⟨_, blkC_len B, HW.out.row⟩
    have HF := Lib.hid HW.out.fits
    generalize B.length = n at *
    clear HW
    go_enter Tryd.func20, Tryd.ntmps20
    go_wp2_with fail
    go_loopw [1, 5] (fun t i wr => ∃ j : Nat, j ≤ n ∧ t = .int .i64 (k + 3 * j) ∧ i = .int .i64 j ∧ Hid (w.grownBy wr (some g)) ∧ Hid (∃ C : List Value, C.length = n * 3 ∧ wr.ownsRow lo 31 3 (.slice (some ⟨g, 0, none⟩) n cap) n C)) (fun _ i _ => n - (intOf i).toNat)
    case atStart => exact ⟨0, by omega, by simp, rfl, HG, HR⟩
    case round =>
      obtain ⟨j, hj, rfl, rfl, HGr, HM⟩ := hrel
      by_cases hlt : j < n
      · obtain ⟨C, hCl, hCo⟩ := HM.out
        obtain ⟨o0, ho0⟩ : ∃ u, C[j * 3]? = some u := ⟨_, List.getElem?_eq_getElem (by omega)⟩
        obtain ⟨o1, ho1⟩ : ∃ u, C[j * 3 + 1]? = some u := ⟨_, List.getElem?_eq_getElem (by omega)⟩
        obtain ⟨o2, ho2⟩ : ∃ u, C[j * 3 + 2]? = some u := ⟨_, List.getElem?_eq_getElem (by omega)⟩
        have d0 : wr.cell? ⟨g, j * 3, none⟩ = some o0 := (hCo.cellAt (j * 3) (by omega)).trans ho0
        have d1 : wr.cell? ⟨g, j * 3 + 1, none⟩ = some o1 := (hCo.cellAt (j * 3 + 1) (by omega)).trans ho1
        have d2 : wr.cell? ⟨g, j * 3 + 2, none⟩ = some o2 := (hCo.cellAt (j * 3 + 2) (by omega)).trans ho2
        have f2 : wr.frozen? ⟨g, j * 3 + 2, none⟩ = false := hCo.frozenAt _
        have f0 : wr.frozen? ⟨g, j * 3, none⟩ = false := hCo.frozenAt _
        have f1 : wr.frozen? ⟨g, j * 3 + 1, none⟩ = false := hCo.frozenAt _
        have HS : Hid (∀ x y z : Int, w.grownBy (((wr.setCell ⟨g, j * 3, none⟩ (.int .i64 x)).setCell ⟨g, j * 3 + 1, none⟩ (.int .i64 y)).setCell ⟨g, j * 3 + 2, none⟩ (.int .i64 z)) (some g) ∧ ∃ C : List Value, C.length = n * 3 ∧ (((wr.setCell ⟨g, j * 3, none⟩ (.int .i64 x)).setCell ⟨g, j * 3 + 1, none⟩ (.int .i64 y)).setCell ⟨g, j * 3 + 2, none⟩ (.int .i64 z)).ownsRow lo 31 3 (.slice (some ⟨g, 0, none⟩) n cap) n C) := Lib.hid (fun x y z => by
          have s1 := hCo.stored (j * 3) (.int .i64 x)
          have s2 := s1.1.stored (j * 3 + 1) (.int .i64 y)
          have s3 := s2.1.stored (j * 3 + 2) (.int .i64 z)
          exact ⟨grownBy_trans (grownBy_trans (grownBy_trans HGr.out s1.2) s2.2) s3.2, _, by simpa using hCl, s3.1⟩)
        clear HM hCl hCo ho0 ho1 ho2
        go_wp2_with fail
        go_roundw
        case rel => exact ⟨j + 1, by omega, by rw [show k + 3 * (j : Int) + 1 + 1 + 1 = k + 3 * ((j + 1 : Nat) : Int) by omega], by go_num, (HS.out _ _ _).1, (HS.out _ _ _).2⟩
        case measure => simp [intOf]; omega
      · obtain rfl : j = n := by omega
        go_wp2_with fail
        go_ret
        obtain ⟨C, hCl, hCo⟩ := HM.out
        refine ⟨rfl, C, ⟨hCo, fun t ht => ?_, Nat.le_trans HF.out HGr.out.size⟩, HGr.out⟩
        have : g = t := by simpa [Value.ownBlock] using ht
        exact this ▸ HT.out


theorem exactCheckResolved_walk (af : Option Addr) (lf cf : Nat) (B : List Blk) (n : Int) (a : Option Addr) (len cap : Nat) (zs : List Int) (w : World) (hf : SlB w (.slice af lf cf) B) (hr : RowIn .i64 w a len cap zs) (hT : Pow10 w) :
    Calls Tryd.prog 6 #[.slice af lf cf, .int .i64 n, .slice a len cap] w fun e w' => e = .returned (.bool true) ∧ Below w.heap.size w w' := by
  have hm := hr.len_le.1
  unfold maxLen at hm
  have hfl : lf = B.length ∧ B.length ≤ maxLen := by obtain ⟨_, _, e, h1, h2, _⟩ := hf; injection e with _ e _; exact ⟨e, by omega⟩
  obtain ⟨rfl, hfm⟩ := hfl
  by_cases hl : 1048576 < len
  · clear hf hr
    go_enter Tryd.func6, Tryd.ntmps6
    go_wp2
    go_ret
    exact ⟨rfl, Below.refl _ _⟩
  · by_cases hl2 : 1048576 < B.length
    · have hd : decide ((1048576 : Int) < (B.length : Int)) = true := by simp; omega
      clear hf hr
      go_enter Tryd.func6, Tryd.ntmps6
      go_wp2_with fail
      refine (szBlockS_any af B.length cf 1048576 _ (by omega) (by omega) hfm).mono ?_
      rintro e w' ⟨rfl, rfl⟩
      rw [if_pos (by omega)]
      go_wp2_with fail
      go_ret
      exact ⟨rfl, Below.refl _ _⟩
    · have hs := hr.sl
      have hlen : (zs.take len).length = len := by have := hr.len_le; rw [List.length_take]; omega
      generalize zs.take len = S at *
      have hS : S.length ≤ 1048576 := by omega
      have hF : B.length ≤ 1048576 := by omega
      have HTw := Lib.hid hT
      have hnn : (chkR B n S != chkR B n S) = false := by simp
      have hle : 0 ≤ (1048576 : Int) - B.length := by omega
      clear hr hlen hT
      go_enter Tryd.func6, Tryd.ntmps6
      go_wp2_with fail
      refine (szBlockS_any af B.length cf 1048576 _ (by omega) (by omega) hfm).mono ?_
      rintro e w' ⟨rfl, rfl⟩
      rw [if_neg (by omega)]
      go_wp2_with fail
      refine (toBlockS_any _ B _ hF hf).mono ?_
      rintro e w1 ⟨v1, rfl, o1, b1⟩
      have B1 := b1
      go_wp2_with fail
      refine (toIntS_any _ S _ hS (hs.below B1)).mono ?_
      rintro e w2 ⟨v2, rfl, o2, b2⟩
      have B2 := B1.trans (b2.mono B1.size)
      have s1 := o1.sl.below b2
      clear b1 B1
      go_wp2_with fail
      refine (schkR_any v1 v2 B n S _ s1 o2.sl).mono ?_
      rintro e w3 ⟨rfl, b3⟩
      have B3 := B2.trans (b3.mono B2.size)
      clear o1 s1 o2 b2
      go_wp2_with fail
      refine (toBlockS_any _ B _ hF (hf.below B3)).mono ?_
      rintro e w4 ⟨x0, rfl, ox, b4⟩
      have B4 := B3.trans (b4.mono B3.size)
      clear b3
      go_wp2_with fail
      refine (toIntS_any _ S _ hS (hs.below B4)).mono ?_
      rintro e w5 ⟨x1, rfl, oy, b5⟩
      have B5 := B4.trans (b5.mono B4.size)
      have ox : OwnB _ _ w5 x0 B := OwnC.below ox b5
      go_wp2_with fail
      refine (chkR_any x0 x1 B n S _ ox.sl oy.sl (HTw.out.below B5)).mono ?_
      rintro e w6 ⟨rfl, b6⟩
      have B6 := B5.trans (b6.mono B5.size)
      have ox : OwnB _ _ w6 x0 B := OwnC.below ox b6
      have oy := oy.below b6
      go_wp2_with fail
      refine (toBlockS_any _ B _ hF (hf.below B6)).mono ?_
      rintro e w8 ⟨x2, rfl, ox2, b8⟩
      have B8 := B6.trans (b8.mono B6.size)
      have ox : OwnB _ _ w8 x0 B := OwnC.below ox b8
      have oy := oy.below b8
      go_wp2_with fail
      refine (eqBlockS_same x0 x2 B _ ox.sl ox2.sl).mono ?_
      rintro e w9 ⟨rfl, b9⟩
      have B9 := B8.trans (b9.mono B8.size)
      have oy := oy.below b9
      clear B8 ox2
      go_wp2_with fail
      refine (toIntS_any _ S _ hS (hs.below B9)).mono ?_
      rintro e w10 ⟨y2, rfl, oy2, b10⟩
      have B10 := B9.trans (b10.mono B9.size)
      have oy := oy.below b10
      clear B9
      go_wp2_with fail
      refine (eqIntS_any x1 y2 S S _ oy.sl oy2.sl).mono ?_
      rintro e w11 ⟨n11, rfl, rfl⟩
      have B11 := blwD B10 n11
      go_wp2_with fail
      go_ret
      exact ⟨rfl, B11⟩

theorem exactPagesOf_walk (af : Option Addr) (lf cf : Nat) (B : List Blk) (n : Int) (a : Option Addr) (len cap : Nat) (zs : List Int) (w : World) (hf : SlB w (.slice af lf cf) B) (hr : RowIn .i64 w a len cap zs) (hT : Pow10 w) :
    Calls Tryd.prog 5 #[.slice af lf cf, .int .i64 n, .slice a len cap] w fun e w' => e = .returned (.bool true) ∧ Below w.heap.size w w' := by
  have hm := hr.len_le.1
  unfold maxLen at hm
  have hfl : lf = B.length ∧ B.length ≤ maxLen := by obtain ⟨_, _, e, h1, h2, _⟩ := hf; injection e with _ e _; exact ⟨e, by omega⟩
  obtain ⟨rfl, hfm⟩ := hfl
  by_cases hl : 1048576 < len
  · clear hf hr
    go_enter Tryd.func5, Tryd.ntmps5
    go_wp2
    go_ret
    exact ⟨rfl, Below.refl _ _⟩
  · by_cases hl2 : 1048576 < B.length
    · have hd : decide ((1048576 : Int) < (B.length : Int)) = true := by simp; omega
      clear hf hr
      go_enter Tryd.func5, Tryd.ntmps5
      go_wp2_with fail
      refine (szBlockS_any af B.length cf 1048576 _ (by omega) (by omega) hfm).mono ?_
      rintro e w' ⟨rfl, rfl⟩
      rw [if_pos (by omega)]
      go_wp2_with fail
      go_ret
      exact ⟨rfl, Below.refl _ _⟩
    · have hs := hr.sl
      have hlen : (zs.take len).length = len := by have := hr.len_le; rw [List.length_take]; omega
      generalize zs.take len = S at *
      have hS : S.length ≤ 1048576 := by omega
      have hF : B.length ≤ 1048576 := by omega
      have hRl := pagesS_len B n S
      generalize hRR : pagesS B n S = R at *
      have HR := Lib.hid hRR
      have HTw := Lib.hid hT
      have hk : decide ((1 : Int) + 3 * B.length + S.length < 0) = false := by simp; omega
      have hle : 0 ≤ (1048576 : Int) - B.length := by omega
      clear hr hRR hlen hT
      go_enter Tryd.func5, Tryd.ntmps5
      go_wp2_with fail
      refine (szBlockS_any af B.length cf 1048576 _ (by omega) (by omega) hfm).mono ?_
      rintro e w' ⟨rfl, rfl⟩
      rw [if_neg (by omega)]
      go_wp2_with fail
      refine (toBlockS_any _ B _ hF hf).mono ?_
      rintro e w1 ⟨v1, rfl, o1, b1⟩
      have B1 := b1
      go_wp2_with fail
      refine (toIntS_any _ S _ hS (hs.below B1)).mono ?_
      rintro e w2 ⟨v2, rfl, o2, b2⟩
      have B2 := B1.trans (b2.mono B1.size)
      have s1 := o1.sl.below b2
      clear b1 B1
      go_wp2_with fail
      refine (spagesOf_all v1 v2 B n S _ s1 o2.sl).mono ?_
      rintro e w3 ⟨vw, rfl, ow, b3⟩
      rw [HR.out] at ow
      have B3 := B2.trans (b3.mono B2.size)
      clear o1 s1 o2 b2
      go_wp2_with fail
      refine (toBlockS_any _ B _ hF (hf.below B3)).mono ?_
      rintro e w4 ⟨x0, rfl, ox, b4⟩
      have B4 := B3.trans (b4.mono B3.size)
      have ow := ow.below b4
      clear b3
      go_wp2_with fail
      refine (toIntS_any _ S _ hS (hs.below B4)).mono ?_
      rintro e w5 ⟨x1, rfl, oy, b5⟩
      have B5 := B4.trans (b5.mono B4.size)
      have ow := ow.below b5
      have ox : OwnB _ _ w5 x0 B := OwnC.below ox b5
      go_wp2_with fail
      refine (pagesOf_all x0 x1 B n S _ ox.sl oy.sl (HTw.out.below B5)).mono ?_
      rintro e w6 ⟨g0, rfl, og, b6⟩
      rw [HR.out] at og
      have B6 := B5.trans (b6.mono B5.size)
      have ow := ow.below b6
      have ox : OwnB _ _ w6 x0 B := OwnC.below ox b6
      have oy := oy.below b6
      go_wp2_with fail
      refine (eqIntS_any g0 vw R R _ og.sl ow.sl).mono ?_
      rintro e w7 ⟨n7, rfl, rfl⟩
      have B7 := blwD B6 n7
      have ow := ow.drewN n7
      have ox : OwnB _ _ (w6.drewN n7) x0 B := OwnC.drewN ox n7
      have oy := oy.drewN n7
      have og := og.drewN n7
      clear B6
      generalize hw7 : w6.drewN n7 = w7 at *
      go_wp2_with fail
      refine (toBlockS_any _ B _ hF (hf.below B7)).mono ?_
      rintro e w8 ⟨x2, rfl, ox2, b8⟩
      have B8 := B7.trans (b8.mono B7.size)
      have ow := ow.below b8
      have ox : OwnB _ _ w8 x0 B := OwnC.below ox b8
      have oy := oy.below b8
      have og := og.below b8
      clear B7
      go_wp2_with fail
      refine (eqBlockS_same x0 x2 B _ ox.sl ox2.sl).mono ?_
      rintro e w9 ⟨rfl, b9⟩
      have B9 := B8.trans (b9.mono B8.size)
      have ow := ow.below b9
      have ox : OwnB _ _ w9 x0 B := OwnC.below ox b9
      have oy := oy.below b9
      have og := og.below b9
      clear B8 ox2
      go_wp2_with fail
      refine (toIntS_any _ S _ hS (hs.below B9)).mono ?_
      rintro e w10 ⟨y2, rfl, oy2, b10⟩
      have B10 := B9.trans (b10.mono B9.size)
      have ow := ow.below b10
      have ox : OwnB _ _ w10 x0 B := OwnC.below ox b10
      have oy := oy.below b10
      have og := og.below b10
      clear B9
      go_wp2_with fail
      refine (eqIntS_any x1 y2 S S _ oy.sl oy2.sl).mono ?_
      rintro e w11 ⟨n11, rfl, rfl⟩
      have B11 := blwD B10 n11
      have ow := ow.drewN n11
      have ox : OwnB _ _ (w10.drewN n11) x0 B := OwnC.drewN ox n11
      have oy := oy.drewN n11
      have og := og.drewN n11
      clear B10 oy2
      generalize hw11 : w10.drewN n11 = w11 at *
      go_wp2_with fail
      refine (markBlockS_any _ _ x0 B 1 _ (by omega) (by omega) ox).mono ?_
      rintro e w12 ⟨rfl, C, ox12, g12⟩
      have B12 := B11.grown g12 B11.size (fun k hk => by have := (OwnC.row ox).lt k hk; have := B3.size; omega)
      have ow := ow.besideC ox g12 (.inl (Nat.le_refl _))
      have og := og.besideC ox g12 (.inr b5.size)
      have oy := oy.besideC ox g12 (.inr (Nat.le_refl _))
      clear ox ox12 B11
      go_wp2_with fail
      refine (markIntS_any _ _ x1 S (1 + 3 * B.length) _ (by omega) (by omega) oy).mono ?_
      rintro e w13 ⟨rfl, oy13, g13⟩
      have B13 := B12.grown g13 B12.size (fun k hk => by have := (oy.row.lt k hk).1; have := B4.size; omega)
      have ow := ow.beside oy g13 (.inl b4.size)
      have og := og.beside oy g13 (.inr (Nat.le_refl _))
      clear oy oy13 B12
      go_wp2_with fail
      refine (eqIntS_any g0 vw R R _ og.sl ow.sl).mono ?_
      rintro e w14 ⟨n14, rfl, rfl⟩
      have B14 := blwD B13 n14
      have ow := ow.drewN n14
      have og := og.drewN n14
      clear B13
      generalize hw14 : w13.drewN n14 = w14 at *
      go_wp2_with fail
      refine (markIntS_any _ _ g0 R 1 _ (by omega) (by omega) og).mono ?_
      rintro e w15 ⟨rfl, og15, g15⟩
      have B15 := B14.grown g15 B14.size (fun k hk => by have := (og.row.lt k hk).1; have := B5.size; omega)
      have ow := ow.beside og g15 (.inl (Nat.le_trans b4.size b5.size))
      clear og B14
      go_wp2_with fail
      refine (heldIntS_any g0 1 R.length _ (by omega) (by omega) og15.sl).mono ?_
      rintro e w16 ⟨rfl, rfl⟩
      go_wp2_with fail
      refine (toBlockS_any _ B _ hF (hf.below B15)).mono ?_
      rintro e w17 ⟨z0, rfl, oz0, b17⟩
      have B17 := B15.trans (b17.mono B15.size)
      have ow := ow.below b17
      have og := og15.below b17
      clear og15 B15
      go_wp2_with fail
      refine (toIntS_any _ S _ hS (hs.below B17)).mono ?_
      rintro e w18 ⟨z1, rfl, oz1, b18⟩
      have B18 := B17.trans (b18.mono B17.size)
      have ow := ow.below b18
      have og := og.below b18
      have oz0 : OwnB _ _ w18 z0 B := OwnC.below oz0 b18
      clear B17
      go_wp2_with fail
      refine (pagesOf_all z0 z1 B n S _ oz0.sl oz1.sl (HTw.out.below B18)).mono ?_
      rintro e w19 ⟨h0, rfl, oh, b19⟩
      rw [HR.out] at oh
      have B19 := B18.trans (b19.mono B18.size)
      have ow := ow.below b19
      have og := og.below b19
      clear B18 oz0 oz1
      go_wp2_with fail
      refine (eqIntS_any h0 vw R R _ oh.sl ow.sl).mono ?_
      rintro e w20 ⟨n20, rfl, rfl⟩
      have B20 := blwD B19 n20
      have og := og.drewN n20
      clear B19 oh ow
      generalize hw20 : w19.drewN n20 = w20 at *
      go_wp2_with fail
      refine (heldIntS_any g0 1 R.length _ (by omega) (by omega) og.sl).mono ?_
      rintro e w21 ⟨rfl, rfl⟩
      go_wp2_with fail
      go_ret
      exact ⟨rfl, B20⟩


end Go.Proofs.YtgppljadkpoklaaDoor
