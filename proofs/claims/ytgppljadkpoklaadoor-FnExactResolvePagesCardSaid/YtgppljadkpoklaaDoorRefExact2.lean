/- The program's ResolvePages returns what the reference's returns. -/
import Derived.Test.YtgppljadkpoklaaDoorRefRes
import Derived.Test.YtgppljadkpoklaaDoorRefExact
namespace Go.Proofs.YtgppljadkpoklaaDoor
open Go.RowKit
set_option maxHeartbeats 2000000
set_option maxRecDepth 100000

theorem resL_len (B : List Blk) (n : Int) : (resL B n).length ≤ 10 := by
  unfold resL
  cases h : resS B n with
  | none => simp
  | some t =>
    obtain ⟨P, m⟩ := t
    have := (resS_some h).2.2.2.1
    simp; omega

theorem exactResolvePages_walk (af : Option Addr) (lf cf : Nat) (B : List Blk) (n : Int) (w : World) (hf : SlB w (.slice af lf cf) B) (hT : Pow10 w) :
    Calls Tryd.prog 7 #[.slice af lf cf, .int .i64 n] w fun e w' => e = .returned (.bool true) ∧ Below w.heap.size w w' := by
  have hfl : lf = B.length ∧ B.length ≤ maxLen := by obtain ⟨_, _, e, h1, h2, _⟩ := hf; injection e with _ e _; exact ⟨e, by omega⟩
  obtain ⟨rfl, hfm⟩ := hfl
  by_cases hl2 : 1048576 < B.length
  · have hd : decide ((1048576 : Int) < (B.length : Int)) = true := by simp; omega
    clear hf hT
    go_enter Tryd.func7, Tryd.ntmps7
    go_wp2_with fail
    refine (szBlockS_any af B.length cf 1048576 _ (by omega) (by omega) hfm).mono ?_
    rintro e w' ⟨rfl, rfl⟩
    rw [if_pos (by omega)]
    go_wp2_with fail
    go_ret
    exact ⟨rfl, Below.refl _ _⟩
  · have hF : B.length ≤ 1048576 := by omega
    have hRl := resL_len B n
    have HSp := Lib.hid (fun (v : Value) (w' : World) (h : SlB w' v B) => sresolvePages_any v B n w' h)
    have HIm := Lib.hid (fun (v : Value) (w' : World) (h : SlB w' v B) (t : Pow10 w') => resolvePages_any v B n w' h t)
    unfold Resolved at HSp HIm
    generalize resL B n = R at *
    generalize resM B n = mm at *
    generalize resB B n = ob at *
    have HTw := Lib.hid hT
    have hk : decide ((1 : Int) + 3 * B.length < 0) = false := by simp; omega
    have hbb : (ob != ob) = false := by simp
    have hmn : ((mm : Int) != (mm : Int)) = false := by simp
    have hle : 0 ≤ (1048576 : Int) - B.length := by omega
    clear hT
    go_enter Tryd.func7, Tryd.ntmps7
    go_wp2_with fail
    refine (szBlockS_any af B.length cf 1048576 _ (by omega) (by omega) hfm).mono ?_
    rintro e w' ⟨rfl, rfl⟩
    rw [if_neg (by omega)]
    go_wp2_with fail
    refine (toBlockS_any _ B _ hF hf).mono ?_
    rintro e w1 ⟨v1, rfl, o1, b1⟩
    have B1 := b1
    clear b1
    go_wp2_with fail
    refine (HSp.out v1 _ o1.sl).mono ?_
    rintro e w3 ⟨vw, rfl, ow, b3⟩
    have B3 := B1.trans (b3.mono B1.size)
    clear o1 B1
    go_wp2_with fail
    refine (toBlockS_any _ B _ hF (hf.below B3)).mono ?_
    rintro e w4 ⟨x0, rfl, ox, b4⟩
    have B4 := B3.trans (b4.mono B3.size)
    have ow := ow.below b4
    clear b3
    go_wp2_with fail
    refine (HIm.out x0 _ ox.sl (HTw.out.below B4)).mono ?_
    rintro e w6 ⟨g0, rfl, og, b6⟩
    have B6 := B4.trans (b6.mono B4.size)
    have ow := ow.below b6
    have ox : OwnB _ _ w6 x0 B := OwnC.below ox b6
    go_wp2_with fail
    refine (eqIntS_any g0 vw R R _ og.sl ow.sl).mono ?_
    rintro e w7 ⟨n7, rfl, rfl⟩
    have B7 := blwD B6 n7
    have ow := ow.drewN n7
    have ox : OwnB _ _ (w6.drewN n7) x0 B := OwnC.drewN ox n7
    have og := og.drewN n7
    clear B6
    generalize hw7 : w6.drewN n7 = w7 at *
    go_wp2_with fail
    refine (toBlockS_any _ B _ hF (hf.below B7)).mono ?_
    rintro e w8 ⟨x2, rfl, ox2, b8⟩
    have B8 := B7.trans (b8.mono B7.size)
    have ow := ow.below b8
    have ox : OwnB _ _ w8 x0 B := OwnC.below ox b8
    have og := og.below b8
    clear B7
    go_wp2_with fail
    refine (eqBlockS_same x0 x2 B _ ox.sl ox2.sl).mono ?_
    rintro e w9 ⟨rfl, b9⟩
    have B9 := B8.trans (b9.mono B8.size)
    have ow := ow.below b9
    have ox : OwnB _ _ w9 x0 B := OwnC.below ox b9
    have og := og.below b9
    clear B8 ox2
    go_wp2_with fail
    refine (markBlockS_any _ _ x0 B 1 _ (by omega) (by omega) ox).mono ?_
    rintro e w12 ⟨rfl, C, ox12, g12⟩
    have B12 := B9.grown g12 B9.size (fun k hk => by have := (OwnC.row ox).lt k hk; have := B3.size; omega)
    have ow := ow.besideC ox g12 (.inl (Nat.le_refl _))
    have og := og.besideC ox g12 (.inr (Nat.le_refl _))
    clear ox ox12 B9
    go_wp2_with fail
    refine (eqIntS_any g0 vw R R _ og.sl ow.sl).mono ?_
    rintro e w14 ⟨n14, rfl, rfl⟩
    have B14 := blwD B12 n14
    have ow := ow.drewN n14
    have og := og.drewN n14
    clear B12
    generalize hw14 : w12.drewN n14 = w14 at *
    go_wp2_with fail
    refine (markIntS_any _ _ g0 R 1 _ (by omega) (by omega) og).mono ?_
    rintro e w15 ⟨rfl, og15, g15⟩
    have B15 := B14.grown g15 B14.size (fun k hk => by have := (og.row.lt k hk).1; have := B4.size; omega)
    have ow := ow.beside og g15 (.inl b4.size)
    clear og B14
    go_wp2_with fail
    refine (heldIntS_any g0 1 R.length _ (by omega) (by omega) og15.sl).mono ?_
    rintro e w16 ⟨rfl, rfl⟩
    go_wp2_with fail
    refine (toBlockS_any _ B _ hF (hf.below B15)).mono ?_
    rintro e w17 ⟨z0, rfl, oz0, b17⟩
    have B17 := B15.trans (b17.mono B15.size)
    have ow := ow.below b17
    have og := og15.below b17
    clear og15 B15
    go_wp2_with fail
    refine (HIm.out z0 _ oz0.sl (HTw.out.below B17)).mono ?_
    rintro e w19 ⟨h0, rfl, oh, b19⟩
    have B19 := B17.trans (b19.mono B17.size)
    have ow := ow.below b19
    have og := og.below b19
    clear B17 oz0
    go_wp2_with fail
    refine (eqIntS_any h0 vw R R _ oh.sl ow.sl).mono ?_
    rintro e w20 ⟨n20, rfl, rfl⟩
    have B20 := blwD B19 n20
    have og := og.drewN n20
    clear B19 oh ow
    generalize hw20 : w19.drewN n20 = w20 at *
    go_wp2_with fail
    refine (heldIntS_any g0 1 R.length _ (by omega) (by omega) og.sl).mono ?_
    rintro e w21 ⟨rfl, rfl⟩
    go_wp2_with fail
    go_ret
    exact ⟨rfl, B20⟩
end Go.Proofs.YtgppljadkpoklaaDoor
