/- What the laws of CheckResolved draw. -/
import Derived.Test.YtgppljadkpoklaaDoorDrawPg
import Derived.Test.YtgppljadkpoklaaDoorAppendAll
import Derived.Test.YtgppljadkpoklaaDoorStepAppend
namespace Go.Proofs.YtgppljadkpoklaaDoor
open Go.RowKit
set_option maxHeartbeats 2000000
set_option maxRecDepth 100000

theorem drawCheckResolved_any (a : Option Addr) (len cap : Nat) (zs : List Int) (w : World) (h : RowIn .u8 w a len cap zs) :
    Calls Tryd.prog 28 #[.slice a len cap] w (DrewBIL w) := by
  have HR := Lib.hid h; clear h
  go_enter Tryd.func28, Tryd.ntmps28
  go_wp2_with fail
  refine (newReader_any a len cap zs _ HR.out).mono ?_
  rintro e w1 ⟨rfl, hR, hb⟩
  have hlt : w.heap.size < w1.heap.size := hR.lies
  have HB := Lib.hid hb
  clear hb
  go_wp2_with fail
  refine (anyBlocks_any w.heap.size 0 _ (by omega) hR).mono ?_
  rintro e w2 ⟨v, B, hB, rfl, o2, hR2, hK2⟩
  have HB2 := Lib.hid (HB.out.trans hK2.below)
  have HO2 := Lib.hid o2
  clear o2 hK2 hR HB
  go_wp2_with fail
  refine (one_lit w.heap.size (0 + 52) [1, 2, 3, 10, 40, 0] w2 _ (by simp) (by simp) (by omega) hR2).mono ?_
  rintro e w3 ⟨z, hz, rfl, hR3, hK3⟩
  have HB3 := Lib.hid (HB2.out.trans hK3.below)
  have HO3 : Hid (OwnB w1.heap.size w2.heap.size w3 v B) := Lib.hid (ownC_keeps HO2.out hK3 hlt)
  have hlt3 : w.heap.size < w3.heap.size := hR3.lies
  have h23 : w2.heap.size ≤ w3.heap.size := hK3.below.size
  clear hK3 HO2 HB2 hz hR2
  go_wp2_with fail
  refine (sresolvePages_any v B z _ (OwnB.sl HO3.out)).mono ?_
  rintro e w4 ⟨vp, he4, op, b4⟩
  have HB4 := Lib.hid (HB3.out.trans (b4.mono HB3.out.size))
  have HO4 : Hid (OwnB w1.heap.size w2.heap.size w4 v B) := Lib.hid (OwnC.below HO3.out b4)
  have HR4 := Lib.hid (hR3.below b4)
  have h34 : w3.heap.size ≤ w4.heap.size := b4.size
  clear b4 hR3 HB3 HO3
  have hlt4 : w.heap.size < w4.heap.size := by omega
  cases hp : resS B z with
  | none =>
    have e1 : ((resM B z : Nat) : Int) = 0 := by unfold resM; rw [hp]; rfl
    have e2 : resB B z = false := by unfold resB; rw [hp]; rfl
    have e3 : resL B z = [] := by unfold resL; rw [hp]; rfl
    rw [e1, e2] at he4
    subst he4
    clear e1 e2 e3 hp op
    go_wp2_with fail
    refine (somePages_any w.heap.size (0 + 52 + 1) _ (by omega) HR4.out).mono ?_
    rintro e w5 ⟨u, K, hK, rfl, o5, hK5⟩
    have HB5 := Lib.hid (HB4.out.trans hK5.below)
    have HO5 : Hid (OwnB w.heap.size w5.heap.size w5 v B) := Lib.hid (OwnC.mono (ownC_keeps HO4.out hK5 hlt) (Nat.le_of_lt hlt) (Nat.le_trans HO4.out.fits hK5.below.size) (Nat.le_refl _))
    have HS5 := Lib.hid o5
    clear hK5 HB4 HO4 o5
    go_wp2_with fail
    first | go_ret3 | go_ret2
    exact ⟨v, u, B, z, K, hB, hK, rfl, HO5.out, HS5.out, HB5.out⟩
  | some t =>
    obtain ⟨R, m⟩ := t
    obtain ⟨-, -, -, s4, -⟩ := resS_some hp
    have e1 : resM B z = m := by unfold resM; rw [hp]; rfl
    have e2 : resB B z = true := by unfold resB; rw [hp]; rfl
    have e3 : resL B z = R := by unfold resL; rw [hp]; rfl
    rw [e1, e2] at he4
    rw [e3] at op
    subst he4
    have HOp := Lib.hid op
    clear e1 e2 e3 hp op
    go_wp2_with fail
    refine (pick_pos w.heap.size (0 + 52 + 1) 3 _ (by omega) (by omega) HR4.out).mono ?_
    rintro e w5 ⟨x, hx, rfl, hR5, hK5⟩
    have HB5 := Lib.hid (HB4.out.trans hK5.below)
    have HO5 : Hid (OwnB w1.heap.size w2.heap.size w5 v B) := Lib.hid (ownC_keeps HO4.out hK5 hlt)
    have HOp5 := Lib.hid (own_keeps HOp.out hK5 hlt3)
    have HR5 := Lib.hid hR5
    have h45 : w4.heap.size ≤ w5.heap.size := hK5.below.size
    clear hK5 hR5 HB4 HO4 HR4 HOp
    by_cases hx0 : x = 0
    · subst hx0
      clear HOp5
      go_wp2_with fail
      refine (somePages_any w.heap.size (0 + 52 + 1 + 1) _ (by omega) HR5.out).mono ?_
      rintro e w6 ⟨u, K, hK, rfl, o6, hK6⟩
      have HB6 := Lib.hid (HB5.out.trans hK6.below)
      have HO6 : Hid (OwnB w.heap.size w6.heap.size w6 v B) := Lib.hid (OwnC.mono (ownC_keeps HO5.out hK6 hlt) (Nat.le_of_lt hlt) (Nat.le_trans HO5.out.fits hK6.below.size) (Nat.le_refl _))
      have HS6 := Lib.hid o6
      clear hK6 HB5 HO5 o6
      go_wp2_with fail
      first | go_ret3 | go_ret2
      exact ⟨v, u, B, z, K, hB, hK, rfl, HO6.out, HS6.out, HB6.out⟩
    · have hd : decide ((0 : Int) < (x : Int)) = true := decide_eq_true (by omega)
      have hd' : decide (0 < x) = true := decide_eq_true (by omega)
      have ho0 : (w5.alloc (.cells #[] 3)).ownsRow w5.heap.size 3 1 (.slice (some ⟨w5.heap.size, 0, none⟩) 0 0) 0 (([] : List Int).map (Value.int .i64)) :=
        World.ownsRow_lit w5 #[] 0 (Nat.le_refl _) (Nat.zero_le _) rfl
      have hb1 : Below w5.heap.size w5 (w5.alloc (.cells #[] 3)) := (Below.refl _ _).alloc (Nat.le_refl _) _
      have HP1 := HOp5.out.below hb1
      have hsz1 := hb1.size
      go_wp2_with (at_builtin; go_must (refine wpList_append_ints rfl _ _ rfl w5.heap.size _ _ _ _ 0 [] R ho0 rfl rfl HP1 (by omega) hsz1 ?_))
      intro vo w6 g1 g2
      have hb6 : Below w5.heap.size w5 w6 := hb1.grown g2 hsz1 (fun k hk => (ho0.lt k hk).1)
      have HB6 := Lib.hid (HB5.out.trans (hb6.mono HB5.out.size))
      have HO6 : Hid (OwnB w1.heap.size w2.heap.size w6 v B) := Lib.hid (OwnC.below HO5.out hb6)
      have HL6 : Hid (w6.ownsRow w5.heap.size 3 1 vo 10 (R.map (Value.int .i64))) := Lib.hid (by simpa [s4] using g1)
      have HR6 := Lib.hid (HR5.out.below hb6)
      have h56 : w5.heap.size ≤ w6.heap.size := hb6.size
      clear g1 g2 ho0 hb1 HP1 hsz1 hb6 HB5 HO5 HOp5 HR5 hd hd' hx0
      have hlt5 : w.heap.size < w5.heap.size := by omega
      rcases HL6.out.2 with ⟨_, h0⟩ | ⟨g, cp, cur, rfl, hg1, hg2, hg3, hg4, _⟩
      · omega
      · clear hg2
        unfold maxLen at hg4
        go_wp2_with fail
        refine (pick_pos w.heap.size (0 + 52 + 1 + 1) 4 _ (by omega) (by omega) HR6.out).mono ?_
        rintro e w7 ⟨y, hy, rfl, hR7, hK7⟩
        have HB7 := Lib.hid (HB6.out.trans hK7.below)
        have HO7 : Hid (OwnB w1.heap.size w2.heap.size w7 v B) := Lib.hid (ownC_keeps HO6.out hK7 hlt)
        have HL7 := Lib.hid (owns_keeps HL6.out hK7 hlt5)
        have HR7 := Lib.hid hR7
        clear hK7 hR7 HB6 HO6 HL6 HR6
        by_cases hy0 : y = 0
        · subst hy0
          go_wp2_with fail
          refine (pick_pos w.heap.size (0 + 52 + 1 + 1 + 1) 10 _ (by omega) (by omega) HR7.out).mono ?_
          rintro e w8 ⟨q, hq, rfl, hR8, hK8⟩
          have HB8 := Lib.hid (HB7.out.trans hK8.below)
          have HO8 : Hid (OwnB w1.heap.size w2.heap.size w8 v B) := Lib.hid (ownC_keeps HO7.out hK8 hlt)
          have HL8 := Lib.hid (owns_keeps HL7.out hK8 hlt5)
          have HR8 := Lib.hid hR8
          clear hK8 hR8 HB7 HO7 HL7 HR7
          go_wp2_with fail
          refine (pick_pos w.heap.size (0 + 52 + 1 + 1 + 1 + 1) 5 _ (by omega) (by omega) HR8.out).mono ?_
          rintro e w9 ⟨c, hc, rfl, hR9, hK9⟩
          have HB9 := Lib.hid (HB8.out.trans hK9.below)
          have HO9 : Hid (OwnB w1.heap.size w2.heap.size w9 v B) := Lib.hid (ownC_keeps HO8.out hK9 hlt)
          have hown := owns_keeps HL8.out hK9 hlt5
          have hqn : q < 10 := by omega
          have c0 : w9.cell? ⟨g, q, none⟩ = some (.int .i64 (R.getD q 0)) := by rw [hown.cellAt q (by omega)]; exact getD_map_int R q (by omega)
          have f0 : w9.frozen? ⟨g, q, none⟩ = false := hown.frozenAt q
          have HS := Lib.hid (hown.stored q (.int .i64 c))
          have hgb : w5.heap.size ≤ g := hg1
          clear hK9 hR9 hown HB8 HO8 HL8 HR8
          generalize R.getD q 0 = y at *
          go_wp2_with fail
          have h := HS.out.1
          rw [← List.map_set] at h
          have hO : OwnB w1.heap.size w2.heap.size (w9.setCell ⟨g, q, none⟩ (.int .i64 c)) v B :=
            (⟨(OwnC.row HO9.out).kept HS.out.2 (.inr (fun e => by have := OwnC.top HO9.out g e; omega)), OwnC.top HO9.out, Nat.le_trans (OwnC.fits HO9.out) HS.out.2.size⟩ : OwnC _ _ _ _ _ _ _ _)
          first | go_ret3 | go_ret2
          exact ⟨v, _, B, z, R.set q c, hB, by simp [s4], rfl, OwnC.mono hO (Nat.le_of_lt hlt) (OwnC.fits hO) (Nat.le_refl _), (own_rowD (L := R.set q c) h (by simp [s4])).sl, HB9.out.setCell (by show w.heap.size ≤ g; omega) _⟩
        · have hxe : ((y : Int) == 0) = false := by simpa using hy0
          have HOx := Lib.hid (own_rowD (L := R) HL7.out s4).sl
          have HOt : Hid (OwnB w.heap.size w7.heap.size w7 v B) := Lib.hid (OwnC.mono HO7.out (Nat.le_of_lt hlt) (OwnC.fits HO7.out) (Nat.le_refl _))
          clear HL7 HO7
          go_wp2_with fail
          first | go_ret3 | go_ret2
          exact ⟨v, _, B, z, R, hB, by omega, rfl, HOt.out, HOx.out, HB7.out⟩
end Go.Proofs.YtgppljadkpoklaaDoor
