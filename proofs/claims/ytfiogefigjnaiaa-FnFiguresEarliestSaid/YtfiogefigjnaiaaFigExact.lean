/- The program's PlaceFigures and TotalDelay return what the reference's return. -/
import Derived.Test.YtfiogefigjnaiaaFigMem
namespace Go.Proofs.Ytfiogefigjnaiaa
open Go.RowKit
set_option maxHeartbeats 2000000
set_option maxRecDepth 100000

theorem placeS_len (F : List (Int × Int)) (S : List Int) : ((placeS F S).getD []).length ≤ 10 := by
  unfold placeS
  cases h1 : okF F
  · simp
  · cases h2 : okS S
    · simp
    · cases hc : plS F S F.length with
      | none => simp
      | some t =>
        obtain ⟨l, pg, out⟩ := t
        have := (plS_room h1 h2 F.length (Nat.le_refl _) l pg out hc).2.2.1
        have := (okF_at h1).1
        simp; omega
theorem Placed.gave {F : List (Int × Int)} {S R : List Int} {b : Bool} {w w' : World} {e : Ending} (h : Placed F S w e w') (hr : (placeS F S).getD [] = R) (hb : (placeS F S).isSome = b) : ∃ v, e = .returned (.tuple #[v, .bool b]) ∧ OwnI w.heap.size w'.heap.size w' v R ∧ Below w.heap.size w w' := by
  obtain ⟨v, h1, h2, h3⟩ := h
  rw [hb] at h1
  rw [hr] at h2
  exact ⟨v, h1, h2, h3⟩

theorem exactPlaceFigures_walk (af : Option Addr) (lf cf : Nat) (F : List (Int × Int)) (a : Option Addr) (len cap : Nat) (zs : List Int) (w : World) (hf : SlF w (.slice af lf cf) F) (hr : RowIn .i64 w a len cap zs) :
    Calls Try.prog 4 #[.slice af lf cf, .slice a len cap] w fun e w' => e = .returned (.bool true) ∧ Below w.heap.size w w' := by
  have hm := hr.len_le.1
  unfold maxLen at hm
  have hfl : lf = F.length ∧ F.length ≤ maxLen := by obtain ⟨_, _, e, h1, h2, _⟩ := hf; injection e with _ e _; exact ⟨e, by omega⟩
  obtain ⟨rfl, hfm⟩ := hfl
  by_cases hl : 1048576 < len
  · clear hf hr
    go_enter Try.func4, Try.ntmps4
    go_wp2
    go_ret
    exact ⟨rfl, Below.refl _ _⟩
  · by_cases hl2 : 1048576 < F.length
    · have hd : decide ((1048576 : Int) < (F.length : Int)) = true := by simp; omega
      clear hf hr
      go_enter Try.func4, Try.ntmps4
      go_wp2_with fail
      refine (szFigureS_any af F.length cf 1048576 _ (by omega) (by omega) hfm).mono ?_
      rintro e w' ⟨rfl, rfl⟩
      rw [if_pos (by omega)]
      go_wp2_with fail
      go_ret
      exact ⟨rfl, Below.refl _ _⟩
    · have hs := hr.sl
      have hlen : (zs.take len).length = len := by have := hr.len_le; rw [List.length_take]; omega
      generalize zs.take len = S at *
      have hS : S.length ≤ 1048576 := by omega
      have hF : F.length ≤ 1048576 := by omega
      have hRl := placeS_len F S
      generalize hRR : (placeS F S).getD [] = R at *
      generalize hBB : (placeS F S).isSome = ob at *
      have HR := Lib.hid hRR
      have HBo := Lib.hid hBB
      have hk : decide ((1 : Int) + 2 * F.length + S.length < 0) = false := by simp; omega
      have hbb : (ob != ob) = false := by simp
      have hle : 0 ≤ (1048576 : Int) - F.length := by omega
      clear hr hRR hBB hlen
      go_enter Try.func4, Try.ntmps4
      go_wp2_with fail
      refine (szFigureS_any af F.length cf 1048576 _ (by omega) (by omega) hfm).mono ?_
      rintro e w' ⟨rfl, rfl⟩
      rw [if_neg (by omega)]
      go_wp2_with fail
      refine (toFigureS_any _ F _ hF hf).mono ?_
      rintro e w1 ⟨v1, rfl, o1, b1⟩
      have B1 := b1
      go_wp2_with fail
      refine (toIntS_any _ S _ hS (hs.below B1)).mono ?_
      rintro e w2 ⟨v2, rfl, o2, b2⟩
      have B2 := B1.trans (b2.mono B1.size)
      have s1 := o1.sl.below b2
      clear b1 B1
      go_wp2_with fail
      refine (splaceFigures_any _ _ v1 v2 F S _ s1 o2).mono ?_
      rintro e w3 hpl
      obtain ⟨vw, rfl, ow, b3⟩ := hpl.gave HR.out HBo.out
      have B3 := B2.trans (b3.mono B2.size)
      clear hpl o1 s1 o2 b2
      go_wp2_with fail
      refine (toFigureS_any _ F _ hF (hf.below B3)).mono ?_
      rintro e w4 ⟨x0, rfl, ox, b4⟩
      have B4 := B3.trans (b4.mono B3.size)
      have ow := ow.below b4
      clear b3
      go_wp2_with fail
      refine (toIntS_any _ S _ hS (hs.below B4)).mono ?_
      rintro e w5 ⟨x1, rfl, oy, b5⟩
      have B5 := B4.trans (b5.mono B4.size)
      have ow := ow.below b5
      have ox : OwnF _ _ w5 x0 F := OwnC.below ox b5
      go_wp2_with fail
      refine (placeFigures_any x0 x1 F S _ ox.sl oy.sl).mono ?_
      rintro e w6 hpl
      obtain ⟨g0, rfl, og, b6⟩ := hpl.gave HR.out HBo.out
      have B6 := B5.trans (b6.mono B5.size)
      have ow := ow.below b6
      have ox : OwnF _ _ w6 x0 F := OwnC.below ox b6
      have oy := oy.below b6
      clear hpl
      go_wp2_with fail
      refine (eqIntS_any g0 vw R R _ og.sl ow.sl).mono ?_
      rintro e w7 ⟨n7, rfl, rfl⟩
      have B7 := below_drewN B6 n7
      have ow := ow.drewN n7
      have ox : OwnF _ _ (w6.drewN n7) x0 F := OwnC.drewN ox n7
      have oy := oy.drewN n7
      have og := og.drewN n7
      clear B6
      generalize hw7 : w6.drewN n7 = w7 at *
      go_wp2_with fail
      refine (toFigureS_any _ F _ hF (hf.below B7)).mono ?_
      rintro e w8 ⟨x2, rfl, ox2, b8⟩
      have B8 := B7.trans (b8.mono B7.size)
      have ow := ow.below b8
      have ox : OwnF _ _ w8 x0 F := OwnC.below ox b8
      have oy := oy.below b8
      have og := og.below b8
      clear B7
      go_wp2_with fail
      refine (eqFigureS_same x0 x2 F _ ox.sl ox2.sl).mono ?_
      rintro e w9 ⟨rfl, b9⟩
      have B9 := B8.trans (b9.mono B8.size)
      have ow := ow.below b9
      have ox : OwnF _ _ w9 x0 F := OwnC.below ox b9
      have oy := oy.below b9
      have og := og.below b9
      clear B8 ox2
      go_wp2_with fail
      refine (toIntS_any _ S _ hS (hs.below B9)).mono ?_
      rintro e w10 ⟨y2, rfl, oy2, b10⟩
      have B10 := B9.trans (b10.mono B9.size)
      have ow := ow.below b10
      have ox : OwnF _ _ w10 x0 F := OwnC.below ox b10
      have oy := oy.below b10
      have og := og.below b10
      clear B9
      go_wp2_with fail
      refine (eqIntS_any x1 y2 S S _ oy.sl oy2.sl).mono ?_
      rintro e w11 ⟨n11, rfl, rfl⟩
      have B11 := below_drewN B10 n11
      have ow := ow.drewN n11
      have ox : OwnF _ _ (w10.drewN n11) x0 F := OwnC.drewN ox n11
      have oy := oy.drewN n11
      have og := og.drewN n11
      clear B10 oy2
      generalize hw11 : w10.drewN n11 = w11 at *
      go_wp2_with fail
      refine (markFigureS_any _ _ x0 F 1 _ (by omega) (by omega) ox).mono ?_
      rintro e w12 ⟨rfl, C, ox12, g12⟩
      have B12 := B11.grown g12 B11.size (fun k hk => by have := (OwnC.row ox).lt k hk; have := B3.size; omega)
      have ow := ow.besideC ox g12 (.inl (Nat.le_refl _))
      have og := og.besideC ox g12 (.inr b5.size)
      have oy := oy.besideC ox g12 (.inr (Nat.le_refl _))
      clear ox ox12 B11
      go_wp2_with fail
      refine (markIntS_any _ _ x1 S (1 + 2 * F.length) _ (by omega) (by omega) oy).mono ?_
      rintro e w13 ⟨rfl, oy13, g13⟩
      have B13 := B12.grown g13 B12.size (fun k hk => by have := (oy.row.lt k hk).1; have := B4.size; omega)
      have ow := ow.beside oy g13 (.inl b4.size)
      have og := og.beside oy g13 (.inr (Nat.le_refl _))
      clear oy oy13 B12
      go_wp2_with fail
      refine (eqIntS_any g0 vw R R _ og.sl ow.sl).mono ?_
      rintro e w14 ⟨n14, rfl, rfl⟩
      have B14 := below_drewN B13 n14
      have ow := ow.drewN n14
      have og := og.drewN n14
      clear B13
      generalize hw14 : w13.drewN n14 = w14 at *
      go_wp2_with fail
      refine (markIntS_any _ _ g0 R 1 _ (by omega) (by omega) og).mono ?_
      rintro e w15 ⟨rfl, og15, g15⟩
      have B15 := B14.grown g15 B14.size (fun k hk => by have := (og.row.lt k hk).1; have := B5.size; omega)
      have ow := ow.beside og g15 (.inl (Nat.le_trans b4.size b5.size))
      clear og B14
      go_wp2_with fail
      refine (heldIntS_any g0 1 R.length _ (by omega) (by omega) og15.sl).mono ?_
      rintro e w16 ⟨rfl, rfl⟩
      go_wp2_with fail
      refine (toFigureS_any _ F _ hF (hf.below B15)).mono ?_
      rintro e w17 ⟨z0, rfl, oz0, b17⟩
      have B17 := B15.trans (b17.mono B15.size)
      have ow := ow.below b17
      have og := og15.below b17
      clear og15 B15
      go_wp2_with fail
      refine (toIntS_any _ S _ hS (hs.below B17)).mono ?_
      rintro e w18 ⟨z1, rfl, oz1, b18⟩
      have B18 := B17.trans (b18.mono B17.size)
      have ow := ow.below b18
      have og := og.below b18
      have oz0 : OwnF _ _ w18 z0 F := OwnC.below oz0 b18
      clear B17
      go_wp2_with fail
      refine (placeFigures_any z0 z1 F S _ oz0.sl oz1.sl).mono ?_
      rintro e w19 hpl
      obtain ⟨h0, rfl, oh, b19⟩ := hpl.gave HR.out HBo.out
      have B19 := B18.trans (b19.mono B18.size)
      have ow := ow.below b19
      have og := og.below b19
      clear hpl B18 oz0 oz1
      go_wp2_with fail
      refine (eqIntS_any h0 vw R R _ oh.sl ow.sl).mono ?_
      rintro e w20 ⟨n20, rfl, rfl⟩
      have B20 := below_drewN B19 n20
      have og := og.drewN n20
      clear B19 oh ow
      generalize hw20 : w19.drewN n20 = w20 at *
      go_wp2_with fail
      refine (heldIntS_any g0 1 R.length _ (by omega) (by omega) og.sl).mono ?_
      rintro e w21 ⟨rfl, rfl⟩
      go_wp2_with fail
      go_ret
      exact ⟨rfl, B20⟩

theorem exactTotalDelay_walk (af : Option Addr) (lf cf : Nat) (F : List (Int × Int)) (a : Option Addr) (len cap : Nat) (zs : List Int) (a2 : Option Addr) (len2 cap2 : Nat) (zs2 : List Int) (w : World) (hf : SlF w (.slice af lf cf) F) (hr : RowIn .i64 w a len cap zs) (hr2 : RowIn .i64 w a2 len2 cap2 zs2) :
    Calls Try.prog 3 #[.slice af lf cf, .slice a len cap, .slice a2 len2 cap2] w fun e w' => e = .returned (.bool true) ∧ Below w.heap.size w w' := by
  have hm := hr.len_le.1
  have hm2 := hr2.len_le.1
  unfold maxLen at hm hm2
  have hfl : lf = F.length ∧ F.length ≤ maxLen := by obtain ⟨_, _, e, h1, h2, _⟩ := hf; injection e with _ e _; exact ⟨e, by omega⟩
  obtain ⟨rfl, hfm⟩ := hfl
  by_cases hl : 1048576 < len
  · clear hf hr hr2
    go_enter Try.func3, Try.ntmps3
    go_wp2
    go_ret
    exact ⟨rfl, Below.refl _ _⟩
  · by_cases hl3 : 1048576 < len2
    · clear hf hr hr2
      go_enter Try.func3, Try.ntmps3
      go_wp2
      go_ret
      exact ⟨rfl, Below.refl _ _⟩
    · by_cases hl2 : 1048576 < F.length
      · have hd : decide ((1048576 : Int) < (F.length : Int)) = true := by simp; omega
        clear hf hr hr2
        go_enter Try.func3, Try.ntmps3
        go_wp2_with fail
        refine (szFigureS_any af F.length cf 1048576 _ (by omega) (by omega) hfm).mono ?_
        rintro e w' ⟨rfl, rfl⟩
        rw [if_pos (by omega)]
        go_wp2_with fail
        go_ret
        exact ⟨rfl, Below.refl _ _⟩
      · have hs := hr.sl
        have hlen : (zs.take len).length = len := by have := hr.len_le; rw [List.length_take]; omega
        have hs2 := hr2.sl
        have hlen2 : (zs2.take len2).length = len2 := by have := hr2.len_le; rw [List.length_take]; omega
        generalize zs.take len = S at *
        generalize zs2.take len2 = P at *
        have hS : S.length ≤ 1048576 := by omega
        have hP : P.length ≤ 1048576 := by omega
        have hF : F.length ≤ 1048576 := by omega
        have hnn : (delayS F S P != delayS F S P) = false := by simp
        have hle : 0 ≤ (1048576 : Int) - F.length := by omega
        clear hr hr2 hlen hlen2
        go_enter Try.func3, Try.ntmps3
        go_wp2_with fail
        refine (szFigureS_any af F.length cf 1048576 _ (by omega) (by omega) hfm).mono ?_
        rintro e w' ⟨rfl, rfl⟩
        rw [if_neg (by omega)]
        go_wp2_with fail
        refine (toFigureS_any _ F _ hF hf).mono ?_
        rintro e w1 ⟨v1, rfl, o1, b1⟩
        have B1 := b1
        go_wp2_with fail
        refine (toIntS_any _ S _ hS (hs.below B1)).mono ?_
        rintro e w2 ⟨v2, rfl, o2, b2⟩
        have B2 := B1.trans (b2.mono B1.size)
        have s1 := o1.sl.below b2
        clear b1 B1
        go_wp2_with fail
        refine (toIntS_any _ P _ hP (hs2.below B2)).mono ?_
        rintro e w3 ⟨v3, rfl, o3, b3⟩
        have B3 := B2.trans (b3.mono B2.size)
        have s1 := s1.below b3
        have o2 := o2.below b3
        clear b2 B2 o1
        go_wp2_with fail
        refine (stotalDelay_any _ _ v1 v2 v3 F S P _ s1 o2 o3.sl).mono ?_
        rintro e w4 ⟨rfl, b4⟩
        have B4 := B3.trans (b4.mono B3.size)
        clear s1 o2 o3 b3 B3 b4
        go_wp2_with fail
        refine (toFigureS_any _ F _ hF (hf.below B4)).mono ?_
        rintro e w5 ⟨x0, rfl, ox, b5⟩
        have B5 := B4.trans (b5.mono B4.size)
        clear B4
        go_wp2_with fail
        refine (toIntS_any _ S _ hS (hs.below B5)).mono ?_
        rintro e w6 ⟨x1, rfl, oy, b6⟩
        have B6 := B5.trans (b6.mono B5.size)
        have ox : OwnF _ _ w6 x0 F := OwnC.below ox b6
        clear B5
        go_wp2_with fail
        refine (toIntS_any _ P _ hP (hs2.below B6)).mono ?_
        rintro e w7 ⟨x2, rfl, oz, b7⟩
        have B7 := B6.trans (b7.mono B6.size)
        have ox : OwnF _ _ w7 x0 F := OwnC.below ox b7
        have oy := oy.below b7
        clear B6
        go_wp2_with fail
        refine (totalDelay_any x0 x1 x2 F S P _ ox.sl oy.sl oz.sl).mono ?_
        rintro e w8 ⟨rfl, b8⟩
        have B8 := B7.trans (b8.mono B7.size)
        have ox : OwnF _ _ w8 x0 F := OwnC.below ox b8
        have oy := oy.below b8
        have oz := oz.below b8
        clear B7
        go_wp2_with fail
        refine (toFigureS_any _ F _ hF (hf.below B8)).mono ?_
        rintro e w9 ⟨y0, rfl, ox2, b9⟩
        have B9 := B8.trans (b9.mono B8.size)
        have ox : OwnF _ _ w9 x0 F := OwnC.below ox b9
        have oy := oy.below b9
        have oz := oz.below b9
        clear B8
        go_wp2_with fail
        refine (eqFigureS_same x0 y0 F _ ox.sl ox2.sl).mono ?_
        rintro e w10 ⟨rfl, b10⟩
        have B10 := B9.trans (b10.mono B9.size)
        have oy := oy.below b10
        have oz := oz.below b10
        clear B9 ox ox2
        go_wp2_with fail
        refine (toIntS_any _ S _ hS (hs.below B10)).mono ?_
        rintro e w11 ⟨y1, rfl, oy2, b11⟩
        have B11 := B10.trans (b11.mono B10.size)
        have oy := oy.below b11
        have oz := oz.below b11
        clear B10
        go_wp2_with fail
        refine (eqIntS_any x1 y1 S S _ oy.sl oy2.sl).mono ?_
        rintro e w12 ⟨n12, rfl, rfl⟩
        have B12 := below_drewN B11 n12
        have oz := oz.drewN n12
        clear B11 oy oy2
        generalize hw12 : w11.drewN n12 = w12 at *
        go_wp2_with fail
        refine (toIntS_any _ P _ hP (hs2.below B12)).mono ?_
        rintro e w13 ⟨y2, rfl, oz2, b13⟩
        have B13 := B12.trans (b13.mono B12.size)
        have oz := oz.below b13
        clear B12
        go_wp2_with fail
        refine (eqIntS_any x2 y2 P P _ oz.sl oz2.sl).mono ?_
        rintro e w14 ⟨n14, rfl, rfl⟩
        have B14 := below_drewN B13 n14
        go_wp2_with fail
        go_ret
        exact ⟨rfl, B14⟩
end Go.Proofs.Ytfiogefigjnaiaa
