/- What the laws over checked figures draw. -/
import Derived.Test.YtfiogefigjnaiaaDrawFig2
import Derived.Test.YtfiogefigjnaiaaStepAppend
import Derived.Test.YtfiogefigjnaiaaFigExact
import Derived.Deep.RegionLaw
namespace Go.Proofs.Ytfiogefigjnaiaa
open Go.RowKit
set_option maxHeartbeats 4000000
set_option maxRecDepth 100000

def DrewFSP (w : World) (e : Ending) (w' : World) : Prop := ∃ (v u t : Value) (F : List (Int × Int)) (S P : List Int), F.length ≤ 5 ∧ S.length ≤ 13 ∧ P.length ≤ 10 ∧ e = .returned (.tuple #[v, u, t]) ∧ OwnF w.heap.size w'.heap.size w' v F ∧ OwnI w.heap.size w'.heap.size w' u S ∧ OwnI w.heap.size w'.heap.size w' t P ∧ Below w.heap.size w w'

theorem someFigures_any (a : Option Addr) (len cap : Nat) (zs : List Int) (w : World) (h : RowIn .u8 w a len cap zs) :
    Calls Try.prog 38 #[.slice a len cap] w (DrewFSP w) := by
  have HR := Lib.hid h; clear h
  go_enter Try.func38, Try.ntmps38
  go_wp2_with fail
  refine (newReader_any a len cap zs _ HR.out).mono ?_
  rintro e w1 ⟨rfl, hR, hb⟩
  have hlt : w.heap.size < w1.heap.size := hR.lies
  have HB := Lib.hid hb
  clear hb
  go_wp2_with fail
  refine (anyFigures_any w.heap.size 0 _ (by omega) hR).mono ?_
  rintro e w2 ⟨v, F, hF, rfl, o2, hR2, hK2⟩
  have hlt2 : w.heap.size < w2.heap.size := hR2.lies
  have HB2 := Lib.hid (HB.out.trans hK2.below)
  have HO2 := Lib.hid o2
  clear o2 hK2 hR HB
  go_wp2_with fail
  refine (someSpace_any w.heap.size (0 + 22) w2 (by omega) hR2).mono ?_
  rintro e w3 ⟨u, S, hS, rfl, o3, hR3, hK3⟩
  have hlt3 : w.heap.size < w3.heap.size := hR3.lies
  have HB3 := Lib.hid (HB2.out.trans hK3.below)
  have HO3 : Hid (OwnF w1.heap.size w2.heap.size w3 v F) := Lib.hid (ownF_keeps HO2.out hK3 hlt)
  have HS3 := Lib.hid o3
  have h23 : w2.heap.size ≤ w3.heap.size := hK3.below.size
  clear hK3 hR2 HO2 HB2 o3
  go_wp2_with fail
  refine (splaceFigures_any _ _ v u F S _ (OwnF.sl HO3.out) HS3.out).mono ?_
  rintro e w4 ⟨vp, rfl, op, b4⟩
  have HB4 := Lib.hid (HB3.out.trans (b4.mono HB3.out.size))
  have HO4 : Hid (OwnF w1.heap.size w2.heap.size w4 v F) := Lib.hid (OwnC.below HO3.out b4)
  have HS4 := Lib.hid (HS3.out.below b4)
  have HR4 := Lib.hid (hR3.below b4)
  have h34 : w3.heap.size ≤ w4.heap.size := b4.size
  have hRl := placeS_len F S
  generalize (placeS F S).getD [] = R at *
  generalize (placeS F S).isSome = ok at *
  have HOp := Lib.hid op
  obtain ⟨ap, cp, rfl⟩ := slice_len op
  obtain ⟨af, cf, rfl⟩ : ∃ a c, v = .slice a F.length c := by obtain ⟨a, c, e, _⟩ := OwnF.sl HO4.out; exact ⟨a, c, e⟩
  have hfc : F.length ≤ cf ∧ cf ≤ maxLen := by obtain ⟨_, _, e, h1, h2, _⟩ := OwnF.sl HO4.out; injection e with _ _ e; subst e; exact ⟨h1, h2⟩
  unfold maxLen at hfc
  have HC : Hid (∀ k, k < F.length → ∃ b off, af = some ⟨b, off, none⟩ ∧ b ≠ w.heap.size ∧ b < w4.heap.size ∧ ∀ i, i < F.length → w4.cell? ⟨b, off + i * 2 + 1, none⟩ = some (.int .i64 (fp F i))) := Lib.hid (fun k hk => by
    obtain ⟨b, off, e, hb, hc⟩ := ((OwnF.sl HO4.out).cells (by omega)).2
    refine ⟨b, off, e, ?_, hb, fun i hi => (hc i hi).2⟩
    rcases (OwnC.row HO4.out).2 with ⟨e1, h0⟩ | ⟨g, c, cur, e1, h0, _⟩
    · omega
    · injection e1 with e1; rw [e] at e1; injection e1 with e1; injection e1 with e1; omega)
  clear b4 HB3 HO3 HS3 hR3 op
  have ho0 : (w4.alloc (.cells #[] 3)).ownsRow w4.heap.size 3 1 (.slice (some ⟨w4.heap.size, 0, none⟩) 0 0) 0 (([] : List Int).map (Value.int .i64)) :=
    World.ownsRow_lit w4 #[] 0 (Nat.le_refl _) (Nat.zero_le _) rfl
  have hb1 : Below w4.heap.size w4 (w4.alloc (.cells #[] 3)) := (Below.refl _ _).alloc (Nat.le_refl _) _
  have HP1 := HOp.out.below hb1
  have hsz1 := hb1.size
  go_wp2_with (at_builtin; go_must (refine wpList_append_ints rfl _ _ rfl w4.heap.size _ _ _ _ 0 [] R ho0 rfl rfl HP1 (by omega) hsz1 ?_))
  intro vo w5 g1 g2
  have hb5 : Below w4.heap.size w4 w5 := hb1.grown g2 hsz1 (fun k hk => (ho0.lt k hk).1)
  have HW5 := Lib.hid hb5
  have HO5 : Hid (OwnI w4.heap.size w5.heap.size w5 vo R) := Lib.hid (own_rowD (L := R) g1 rfl)
  have HR5 := Lib.hid (HR4.out.below hb5)
  clear g1 g2 ho0 hb1 HP1 hsz1 hb5 HR4 HOp
  have hlt4 : w.heap.size < w4.heap.size := by omega
  have HKb5 : Hid (Keeps w.heap.size w4 w5) := Lib.hid (Keeps.of_below hlt4 HW5.out)
  cases ok
  · have HKb := HKb5
    have HRb := Lib.hid (HR5.out.mono (show 0 + 22 + 30 ≤ 59 by omega))
    have HL0 : Hid ((w5.alloc (.cells #[] 3)).ownsRow w5.heap.size 3 1 (.slice (some ⟨w5.heap.size, 0, none⟩) 0 0) 0 (([] : List Int).map (Value.int .i64))) := World.ownsRow_lit w5 #[] 0 (Nat.le_refl _) (Nat.zero_le _) rfl
    have hbA : Below w5.heap.size w5 (w5.alloc (.cells #[] 3)) := (Below.refl _ _).alloc (Nat.le_refl _) _
    have HK6 : Hid (Keeps w.heap.size w4 (w5.alloc (.cells #[] 3))) := Lib.hid (HKb.out.trans (Keeps.of_below (Nat.lt_of_lt_of_le hlt4 HKb.out.below.size) hbA))
    have HR6 : Hid (Rdr (w5.alloc (.cells #[] 3)) w.heap.size 60) := Lib.hid ((HRb.out.below hbA).mono (by omega))
    have hb45 : w4.heap.size ≤ w5.heap.size := HKb.out.below.size
    have hzA : w5.heap.size ≤ (w5.alloc (.cells #[] 3)).heap.size := hbA.size
    clear hbA
    go_wp2_with fail
    go_loopw [10, 11] (fun vo i wr => ∃ (k : Nat) (P : List Int), k ≤ F.length ∧ i = .int .i64 k ∧ P.length = k ∧ Hid (Rdr wr w.heap.size (60 + k)) ∧ Hid (Keeps w.heap.size w4 wr) ∧ Hid (w5.heap.size ≤ wr.heap.size) ∧ Hid (wr.ownsRow w5.heap.size 3 1 vo k (P.map (Value.int .i64)))) (fun _ i _ => F.length - (intOf i).toNat)
    case atStart => exact ⟨0, [], by omega, rfl, rfl, HR6, HK6, hzA, HL0⟩
    case round =>
      clear HL0 HK6 HR6
      obtain ⟨k, P, hk, rfl, hPn, HRw, HKw, HZw, HOw⟩ := hrel
      by_cases hlk : k < F.length
      · obtain ⟨b, off, rfl, hbr, hb, hc⟩ := HC.out k hlk
        have c1 : wr.cell? ⟨b, off + k * 2 + 1, none⟩ = some (.int .i64 (fp F k)) := (HKw.out.cell hb hbr).trans (hc k hlk)
        have hbw : b < wr.heap.size := Nat.lt_of_lt_of_le hb HKw.out.below.size
        clear hc
        generalize fp F k = y at *
        go_wp2_with fail
        have hszw : w5.heap.size ≤ wr.heap.size := HZw.out
        go_region_law (first | (refine step_append_int rfl _ _ rfl w5.heap.size _ k P _ HO7.out rfl rfl (by omega) HZ7.out ?_; intro v' w8 g1 g2) | (go_simp; go_at_call 41; refine (pick_pos w.heap.size (60 + k) 3 _ (by omega) (by omega) (HRw.out.drewN 1)).mono ?_; rintro e w7 ⟨x, hx, rfl, hR7, hK7⟩; have HO7 := Lib.hid (owns_keeps (HOw.out.drew) hK7 (by omega)); have HZ7 := Lib.hid (Nat.le_trans hszw hK7.below.size); have c7 : w7.cell? ⟨b, off + k * 2 + 1, none⟩ = some (.int .i64 y) := (hK7.cell hbw hbr).trans c1; have HR7 := Lib.hid hR7; have HK7 := Lib.hid hK7; clear hR7 hK7))
        all_goals
          have HK7' : Hid (Keeps w.heap.size w4 w7) := Lib.hid (HKw.out.trans ⟨(Below.refl _ _).drew.trans HK7.out.below, HK7.out.others⟩)
          have HK8 : Hid (Keeps w.heap.size w4 w8) := Lib.hid (HK7'.out.grown g2 hlt4 (fun j hj => Nat.le_trans hb45 (HO7.out.lt j hj).1))
          have HR8 := Lib.hid (HR7.out.grown g2 (fun j hj => by have := (HO7.out.lt j hj).1; omega)).1
          have HZ8 : Hid (w5.heap.size ≤ w8.heap.size) := Lib.hid (Nat.le_trans HZ7.out g2.size)
          have HO8 := Lib.hid g1
          clear g1 g2 HO7 HZ7 c7 HR7 HK7 HK7' HOw HZw HKw HRw c1
          go_wp2_with fail
          go_roundw
          case rel => exact ⟨k + 1, _, by omega, by go_num, by simp [hPn], Lib.hid (HR8.out.mono (by omega)), HK8, HZ8, HO8⟩
          case measure => simp [intOf]; omega
      · obtain rfl : k = F.length := by omega
        have HRt : Hid (Rdr wr w.heap.size 70) := Lib.hid (HRw.out.mono (by omega))
        have hBle : w.heap.size ≤ w5.heap.size := by omega
        have hBrb : w.heap.size < w5.heap.size := by omega
        have HFk : Hid (OwnF w1.heap.size w2.heap.size wr (.slice af F.length cf) F) := Lib.hid (ownF_keeps HO4.out HKw.out hlt)
        have HSk : Hid (OwnI w2.heap.size w3.heap.size wr u S) := Lib.hid (own_keeps HS4.out HKw.out hlt2)
        have HFt : Hid (OwnF w.heap.size wr.heap.size wr (.slice af F.length cf) F) := Lib.hid (OwnC.mono HFk.out (Nat.le_of_lt hlt) (OwnC.fits HFk.out) (Nat.le_refl _))
        have HSt : Hid (OwnI w.heap.size wr.heap.size wr u S) := Lib.hid (HSk.out.mono (Nat.le_of_lt hlt2) HSk.out.fits (Nat.le_refl _))
        have HBt : Hid (Below w.heap.size w wr) := Lib.hid (HB4.out.trans HKw.out.below)
        have hP10 : P.length ≤ 10 := by omega
        have HPn := Lib.hid hPn
        rcases HOw.out.2 with ⟨rfl, h0⟩ | ⟨g, cp, cur, rfl, hg1, hg2, hg3, hg4, _⟩
        · obtain rfl : P = [] := List.length_eq_zero_iff.1 (by have := HPn.out; omega)
          have HOx := Lib.hid ((own_rowD HOw.out (by first | exact h0.symm | rfl)).mono hBle (Nat.le_refl _) (Nat.le_refl _))
          clear h0
          go_wp2_with fail
          refine bodyPost_ret (v := .tuple #[.slice af F.length cf, u, .slice none 0 0]) (by simp [results, Try.results38, go_sem]) rfl ⟨_, u, _, F, S, [], hF, hS, by simp, rfl, HFt.out, HSt.out, HOx.out, HBt.out⟩
        · clear hg2
          by_cases hn : F.length = 0
          · have HOx := Lib.hid ((own_rowD HOw.out HPn.out).mono hBle (Nat.le_refl _) (Nat.le_refl _))
            have hd : decide ((0 : Int) < (F.length : Int)) = false := decide_eq_false (by omega)
            have hd' : decide (0 < F.length) = false := decide_eq_false (by omega)
            clear hn
            go_wp2_with fail
            exact bodyPost_ret (v := .tuple #[.slice af F.length cf, u, .slice (some ⟨g, 0, none⟩) F.length cp]) (by simp [results, Try.results38, go_sem]) rfl ⟨_, u, _, F, S, P, hF, hS, by omega, rfl, HFt.out, HSt.out, HOx.out, HBt.out⟩
          · have hd : decide ((0 : Int) < (F.length : Int)) = true := decide_eq_true (by omega)
            have hd' : decide (0 < F.length) = true := decide_eq_true (by omega)
            go_wp2_with fail
            refine (pick_pos w.heap.size 70 6 _ (by omega) (by omega) HRt.out).mono ?_
            rintro e w8 ⟨x, hx, rfl, hR8, hK8⟩
            have HO8 := Lib.hid (owns_keeps HOw.out hK8 hBrb)
            have HB8 := Lib.hid (HBt.out.trans hK8.below)
            have HF8 : Hid (OwnF w.heap.size w8.heap.size w8 (.slice af F.length cf) F) := Lib.hid (OwnC.mono (ownF_keeps HFk.out hK8 hlt) (Nat.le_of_lt hlt) (Nat.le_trans (OwnC.fits HFk.out) hK8.below.size) (Nat.le_refl _))
            have HS8 := Lib.hid ((own_keeps HSk.out hK8 hlt2).mono (Nat.le_of_lt hlt2) (Nat.le_trans HSk.out.fits hK8.below.size) (Nat.le_refl _))
            have HFk8 := Lib.hid (ownF_keeps HFk.out hK8 hlt)
            have HSk8 := Lib.hid (own_keeps HSk.out hK8 hlt2)
            have HR8 := Lib.hid hR8
            clear hK8 hR8 HOw HBt HFt HSt HFk HSk HRt hd hd'
            by_cases hx0 : x = 0
            · subst hx0
              go_wp2_with fail
              refine (pick_pos w.heap.size (70 + 1) (F.length : Int) _ (by omega) (by omega) HR8.out).mono ?_
              rintro e w9 ⟨q, hq, rfl, hR9, hK9⟩
              have hown := owns_keeps HO8.out hK9 hBrb
              have HB9 := Lib.hid (HB8.out.trans hK9.below)
              have HFk9 := Lib.hid (ownF_keeps HFk8.out hK9 hlt)
              have HSk9 := Lib.hid (own_keeps HSk8.out hK9 hlt2)
              have hqn : q < F.length := by omega
              have c0 : w9.cell? ⟨g, q, none⟩ = some (.int .i64 (P.getD q 0)) := by rw [hown.cellAt q (by omega)]; exact getD_map_int P q (by have := HPn.out; omega)
              have f0 : w9.frozen? ⟨g, q, none⟩ = false := hown.frozenAt q
              have HS := Lib.hid (fun z : Int => hown.stored q (.int .i64 z))
              have hgb : w5.heap.size ≤ g := hg1
              clear hK9 hR9 hown HO8 HB8 HF8 HS8 HR8 HFk8 HSk8
              generalize P.getD q 0 = y at *
              go_wp2_with fail
              refine bodyPost_ret (v := .tuple #[.slice af F.length cf, u, .slice (some ⟨g, 0, none⟩) F.length cp]) (by simp [results, Try.results38, go_sem]) rfl ⟨_, u, _, F, S, P.set q (wrap64 (y + 1)), hF, hS, by rw [List.length_set]; exact hP10, rfl, ?_, ?_, ?_, HB9.out.setCell (by show w.heap.size ≤ g; omega) _⟩
              · exact OwnC.mono (⟨(OwnC.row HFk9.out).kept (HS.out (wrap64 (y + 1))).2 (.inr (fun e => by have := OwnC.top HFk9.out g e; omega)), OwnC.top HFk9.out, Nat.le_trans (OwnC.fits HFk9.out) (HS.out (wrap64 (y + 1))).2.size⟩ : OwnC _ _ _ _ _ _ _ _) (Nat.le_of_lt hlt) (Nat.le_trans (OwnC.fits HFk9.out) (HS.out (wrap64 (y + 1))).2.size) (Nat.le_refl _)
              · exact (⟨HSk9.out.row.kept (HS.out (wrap64 (y + 1))).2 (.inr (fun e => by have := HSk9.out.top g e; omega)), HSk9.out.top, Nat.le_trans HSk9.out.fits (HS.out (wrap64 (y + 1))).2.size⟩ : OwnI _ _ _ _ _).mono (Nat.le_of_lt hlt2) (Nat.le_trans HSk9.out.fits (HS.out (wrap64 (y + 1))).2.size) (Nat.le_refl _)
              · have h := (HS.out (wrap64 (y + 1))).1
                rw [← List.map_set] at h
                exact (own_rowD h (List.length_set.trans HPn.out)).mono hBle (Nat.le_refl _) (Nat.le_refl _)
            · have hxe : ((x : Int) == 0) = false := by simpa using hx0
              have HOx := Lib.hid ((own_rowD HO8.out HPn.out).mono hBle (Nat.le_refl _) (Nat.le_refl _))
              go_wp2_with fail
              exact bodyPost_ret (v := .tuple #[.slice af F.length cf, u, .slice (some ⟨g, 0, none⟩) F.length cp]) (by simp [results, Try.results38, go_sem]) rfl ⟨_, u, _, F, S, P, hF, hS, by omega, rfl, HF8.out, HS8.out, HOx.out, HB8.out⟩
  · go_wp2_with fail
    refine (pick_pos w.heap.size (0 + 22 + 30) 3 _ (by omega) (by omega) HR5.out).mono ?_
    rintro e w6 ⟨x3, hx3, rfl, hR6, hK6⟩
    have HKb := Lib.hid (HKb5.out.trans hK6)
    have HRb := Lib.hid (hR6.mono (show 0 + 22 + 30 + 1 ≤ 59 by omega))
    have HO6 := Lib.hid (owns_keeps HO5.out.row hK6 hlt4)
    clear hR6 hK6 HKb5 HO5 HR5
    by_cases hx30 : x3 = 0
    · subst hx30
      have HL0 : Hid ((w6.alloc (.cells #[] 3)).ownsRow w6.heap.size 3 1 (.slice (some ⟨w6.heap.size, 0, none⟩) 0 0) 0 (([] : List Int).map (Value.int .i64))) := World.ownsRow_lit w6 #[] 0 (Nat.le_refl _) (Nat.zero_le _) rfl
      have hbA : Below w6.heap.size w6 (w6.alloc (.cells #[] 3)) := (Below.refl _ _).alloc (Nat.le_refl _) _
      have HK6 : Hid (Keeps w.heap.size w4 (w6.alloc (.cells #[] 3))) := Lib.hid (HKb.out.trans (Keeps.of_below (Nat.lt_of_lt_of_le hlt4 HKb.out.below.size) hbA))
      have HR6 : Hid (Rdr (w6.alloc (.cells #[] 3)) w.heap.size 60) := Lib.hid ((HRb.out.below hbA).mono (by omega))
      have hb45 : w4.heap.size ≤ w6.heap.size := HKb.out.below.size
      have hzA : w6.heap.size ≤ (w6.alloc (.cells #[] 3)).heap.size := hbA.size
      clear hbA
      go_wp2_with fail
      go_loopw [10, 11] (fun vo i wr => ∃ (k : Nat) (P : List Int), k ≤ F.length ∧ i = .int .i64 k ∧ P.length = k ∧ Hid (Rdr wr w.heap.size (60 + k)) ∧ Hid (Keeps w.heap.size w4 wr) ∧ Hid (w6.heap.size ≤ wr.heap.size) ∧ Hid (wr.ownsRow w6.heap.size 3 1 vo k (P.map (Value.int .i64)))) (fun _ i _ => F.length - (intOf i).toNat)
      case atStart => exact ⟨0, [], by omega, rfl, rfl, HR6, HK6, hzA, HL0⟩
      case round =>
        clear HL0 HK6 HR6
        obtain ⟨k, P, hk, rfl, hPn, HRw, HKw, HZw, HOw⟩ := hrel
        by_cases hlk : k < F.length
        · obtain ⟨b, off, rfl, hbr, hb, hc⟩ := HC.out k hlk
          have c1 : wr.cell? ⟨b, off + k * 2 + 1, none⟩ = some (.int .i64 (fp F k)) := (HKw.out.cell hb hbr).trans (hc k hlk)
          have hbw : b < wr.heap.size := Nat.lt_of_lt_of_le hb HKw.out.below.size
          clear hc
          generalize fp F k = y at *
          go_wp2_with fail
          have hszw : w6.heap.size ≤ wr.heap.size := HZw.out
          go_region_law (first | (refine step_append_int rfl _ _ rfl w6.heap.size _ k P _ HO7.out rfl rfl (by omega) HZ7.out ?_; intro v' w8 g1 g2) | (go_simp; go_at_call 41; refine (pick_pos w.heap.size (60 + k) 3 _ (by omega) (by omega) (HRw.out.drewN 1)).mono ?_; rintro e w7 ⟨x, hx, rfl, hR7, hK7⟩; have HO7 := Lib.hid (owns_keeps (HOw.out.drew) hK7 (by omega)); have HZ7 := Lib.hid (Nat.le_trans hszw hK7.below.size); have c7 : w7.cell? ⟨b, off + k * 2 + 1, none⟩ = some (.int .i64 y) := (hK7.cell hbw hbr).trans c1; have HR7 := Lib.hid hR7; have HK7 := Lib.hid hK7; clear hR7 hK7))
          all_goals
            have HK7' : Hid (Keeps w.heap.size w4 w7) := Lib.hid (HKw.out.trans ⟨(Below.refl _ _).drew.trans HK7.out.below, HK7.out.others⟩)
            have HK8 : Hid (Keeps w.heap.size w4 w8) := Lib.hid (HK7'.out.grown g2 hlt4 (fun j hj => Nat.le_trans hb45 (HO7.out.lt j hj).1))
            have HR8 := Lib.hid (HR7.out.grown g2 (fun j hj => by have := (HO7.out.lt j hj).1; omega)).1
            have HZ8 : Hid (w6.heap.size ≤ w8.heap.size) := Lib.hid (Nat.le_trans HZ7.out g2.size)
            have HO8 := Lib.hid g1
            clear g1 g2 HO7 HZ7 c7 HR7 HK7 HK7' HOw HZw HKw HRw c1
            go_wp2_with fail
            go_roundw
            case rel => exact ⟨k + 1, _, by omega, by go_num, by simp [hPn], Lib.hid (HR8.out.mono (by omega)), HK8, HZ8, HO8⟩
            case measure => simp [intOf]; omega
        · obtain rfl : k = F.length := by omega
          have HRt : Hid (Rdr wr w.heap.size 70) := Lib.hid (HRw.out.mono (by omega))
          have hBle : w.heap.size ≤ w6.heap.size := by omega
          have hBrb : w.heap.size < w6.heap.size := by omega
          have HFk : Hid (OwnF w1.heap.size w2.heap.size wr (.slice af F.length cf) F) := Lib.hid (ownF_keeps HO4.out HKw.out hlt)
          have HSk : Hid (OwnI w2.heap.size w3.heap.size wr u S) := Lib.hid (own_keeps HS4.out HKw.out hlt2)
          have HFt : Hid (OwnF w.heap.size wr.heap.size wr (.slice af F.length cf) F) := Lib.hid (OwnC.mono HFk.out (Nat.le_of_lt hlt) (OwnC.fits HFk.out) (Nat.le_refl _))
          have HSt : Hid (OwnI w.heap.size wr.heap.size wr u S) := Lib.hid (HSk.out.mono (Nat.le_of_lt hlt2) HSk.out.fits (Nat.le_refl _))
          have HBt : Hid (Below w.heap.size w wr) := Lib.hid (HB4.out.trans HKw.out.below)
          have hP10 : P.length ≤ 10 := by omega
          have HPn := Lib.hid hPn
          rcases HOw.out.2 with ⟨rfl, h0⟩ | ⟨g, cp, cur, rfl, hg1, hg2, hg3, hg4, _⟩
          · obtain rfl : P = [] := List.length_eq_zero_iff.1 (by have := HPn.out; omega)
            have HOx := Lib.hid ((own_rowD HOw.out (by first | exact h0.symm | rfl)).mono hBle (Nat.le_refl _) (Nat.le_refl _))
            clear h0
            go_wp2_with fail
            refine bodyPost_ret (v := .tuple #[.slice af F.length cf, u, .slice none 0 0]) (by simp [results, Try.results38, go_sem]) rfl ⟨_, u, _, F, S, [], hF, hS, by simp, rfl, HFt.out, HSt.out, HOx.out, HBt.out⟩
          · clear hg2
            by_cases hn : F.length = 0
            · have HOx := Lib.hid ((own_rowD HOw.out HPn.out).mono hBle (Nat.le_refl _) (Nat.le_refl _))
              have hd : decide ((0 : Int) < (F.length : Int)) = false := decide_eq_false (by omega)
              have hd' : decide (0 < F.length) = false := decide_eq_false (by omega)
              clear hn
              go_wp2_with fail
              exact bodyPost_ret (v := .tuple #[.slice af F.length cf, u, .slice (some ⟨g, 0, none⟩) F.length cp]) (by simp [results, Try.results38, go_sem]) rfl ⟨_, u, _, F, S, P, hF, hS, by omega, rfl, HFt.out, HSt.out, HOx.out, HBt.out⟩
            · have hd : decide ((0 : Int) < (F.length : Int)) = true := decide_eq_true (by omega)
              have hd' : decide (0 < F.length) = true := decide_eq_true (by omega)
              go_wp2_with fail
              refine (pick_pos w.heap.size 70 6 _ (by omega) (by omega) HRt.out).mono ?_
              rintro e w8 ⟨x, hx, rfl, hR8, hK8⟩
              have HO8 := Lib.hid (owns_keeps HOw.out hK8 hBrb)
              have HB8 := Lib.hid (HBt.out.trans hK8.below)
              have HF8 : Hid (OwnF w.heap.size w8.heap.size w8 (.slice af F.length cf) F) := Lib.hid (OwnC.mono (ownF_keeps HFk.out hK8 hlt) (Nat.le_of_lt hlt) (Nat.le_trans (OwnC.fits HFk.out) hK8.below.size) (Nat.le_refl _))
              have HS8 := Lib.hid ((own_keeps HSk.out hK8 hlt2).mono (Nat.le_of_lt hlt2) (Nat.le_trans HSk.out.fits hK8.below.size) (Nat.le_refl _))
              have HFk8 := Lib.hid (ownF_keeps HFk.out hK8 hlt)
              have HSk8 := Lib.hid (own_keeps HSk.out hK8 hlt2)
              have HR8 := Lib.hid hR8
              clear hK8 hR8 HOw HBt HFt HSt HFk HSk HRt hd hd'
              by_cases hx0 : x = 0
              · subst hx0
                go_wp2_with fail
                refine (pick_pos w.heap.size (70 + 1) (F.length : Int) _ (by omega) (by omega) HR8.out).mono ?_
                rintro e w9 ⟨q, hq, rfl, hR9, hK9⟩
                have hown := owns_keeps HO8.out hK9 hBrb
                have HB9 := Lib.hid (HB8.out.trans hK9.below)
                have HFk9 := Lib.hid (ownF_keeps HFk8.out hK9 hlt)
                have HSk9 := Lib.hid (own_keeps HSk8.out hK9 hlt2)
                have hqn : q < F.length := by omega
                have c0 : w9.cell? ⟨g, q, none⟩ = some (.int .i64 (P.getD q 0)) := by rw [hown.cellAt q (by omega)]; exact getD_map_int P q (by have := HPn.out; omega)
                have f0 : w9.frozen? ⟨g, q, none⟩ = false := hown.frozenAt q
                have HS := Lib.hid (fun z : Int => hown.stored q (.int .i64 z))
                have hgb : w6.heap.size ≤ g := hg1
                clear hK9 hR9 hown HO8 HB8 HF8 HS8 HR8 HFk8 HSk8
                generalize P.getD q 0 = y at *
                go_wp2_with fail
                refine bodyPost_ret (v := .tuple #[.slice af F.length cf, u, .slice (some ⟨g, 0, none⟩) F.length cp]) (by simp [results, Try.results38, go_sem]) rfl ⟨_, u, _, F, S, P.set q (wrap64 (y + 1)), hF, hS, by rw [List.length_set]; exact hP10, rfl, ?_, ?_, ?_, HB9.out.setCell (by show w.heap.size ≤ g; omega) _⟩
                · exact OwnC.mono (⟨(OwnC.row HFk9.out).kept (HS.out (wrap64 (y + 1))).2 (.inr (fun e => by have := OwnC.top HFk9.out g e; omega)), OwnC.top HFk9.out, Nat.le_trans (OwnC.fits HFk9.out) (HS.out (wrap64 (y + 1))).2.size⟩ : OwnC _ _ _ _ _ _ _ _) (Nat.le_of_lt hlt) (Nat.le_trans (OwnC.fits HFk9.out) (HS.out (wrap64 (y + 1))).2.size) (Nat.le_refl _)
                · exact (⟨HSk9.out.row.kept (HS.out (wrap64 (y + 1))).2 (.inr (fun e => by have := HSk9.out.top g e; omega)), HSk9.out.top, Nat.le_trans HSk9.out.fits (HS.out (wrap64 (y + 1))).2.size⟩ : OwnI _ _ _ _ _).mono (Nat.le_of_lt hlt2) (Nat.le_trans HSk9.out.fits (HS.out (wrap64 (y + 1))).2.size) (Nat.le_refl _)
                · have h := (HS.out (wrap64 (y + 1))).1
                  rw [← List.map_set] at h
                  exact (own_rowD h (List.length_set.trans HPn.out)).mono hBle (Nat.le_refl _) (Nat.le_refl _)
              · have hxe : ((x : Int) == 0) = false := by simpa using hx0
                have HOx := Lib.hid ((own_rowD HO8.out HPn.out).mono hBle (Nat.le_refl _) (Nat.le_refl _))
                go_wp2_with fail
                exact bodyPost_ret (v := .tuple #[.slice af F.length cf, u, .slice (some ⟨g, 0, none⟩) F.length cp]) (by simp [results, Try.results38, go_sem]) rfl ⟨_, u, _, F, S, P, hF, hS, by omega, rfl, HF8.out, HS8.out, HOx.out, HB8.out⟩
    · have hxe3 : ((x3 : Int) == 0) = false := by simpa using hx30
      have HKw := HKb
      have HRt := Lib.hid (HRb.out.mono (show 59 ≤ 70 by omega))
      have HOw := HO6
      clear HO6 HRb HKb
      have hBle : w.heap.size ≤ w4.heap.size := by omega
      have hBrb : w.heap.size < w4.heap.size := by omega
      have HFk : Hid (OwnF w1.heap.size w2.heap.size w6 (.slice af F.length cf) F) := Lib.hid (ownF_keeps HO4.out HKw.out hlt)
      have HSk : Hid (OwnI w2.heap.size w3.heap.size w6 u S) := Lib.hid (own_keeps HS4.out HKw.out hlt2)
      have HFt : Hid (OwnF w.heap.size w6.heap.size w6 (.slice af F.length cf) F) := Lib.hid (OwnC.mono HFk.out (Nat.le_of_lt hlt) (OwnC.fits HFk.out) (Nat.le_refl _))
      have HSt : Hid (OwnI w.heap.size w6.heap.size w6 u S) := Lib.hid (HSk.out.mono (Nat.le_of_lt hlt2) HSk.out.fits (Nat.le_refl _))
      have HBt : Hid (Below w.heap.size w w6) := Lib.hid (HB4.out.trans HKw.out.below)
      have hP10 : R.length ≤ 10 := by omega
      rcases HOw.out.2 with ⟨rfl, h0⟩ | ⟨g, cp, cur, rfl, hg1, hg2, hg3, hg4, _⟩
      · obtain rfl : R = [] := List.length_eq_zero_iff.1 (by omega)
        have HOx := Lib.hid ((own_rowD HOw.out (by first | exact h0.symm | rfl)).mono hBle (Nat.le_refl _) (Nat.le_refl _))
        clear h0
        go_wp2_with fail
        refine bodyPost_ret (v := .tuple #[.slice af F.length cf, u, .slice none 0 0]) (by simp [results, Try.results38, go_sem]) rfl ⟨_, u, _, F, S, [], hF, hS, by simp, rfl, HFt.out, HSt.out, HOx.out, HBt.out⟩
      · clear hg2
        by_cases hn : R.length = 0
        · have HOx := Lib.hid ((own_rowD HOw.out rfl).mono hBle (Nat.le_refl _) (Nat.le_refl _))
          have hd : decide ((0 : Int) < (R.length : Int)) = false := decide_eq_false (by omega)
          have hd' : decide (0 < R.length) = false := decide_eq_false (by omega)
          clear hn
          go_wp2_with fail
          exact bodyPost_ret (v := .tuple #[.slice af F.length cf, u, .slice (some ⟨g, 0, none⟩) R.length cp]) (by simp [results, Try.results38, go_sem]) rfl ⟨_, u, _, F, S, R, hF, hS, by omega, rfl, HFt.out, HSt.out, HOx.out, HBt.out⟩
        · have hd : decide ((0 : Int) < (R.length : Int)) = true := decide_eq_true (by omega)
          have hd' : decide (0 < R.length) = true := decide_eq_true (by omega)
          go_wp2_with fail
          refine (pick_pos w.heap.size 70 6 _ (by omega) (by omega) HRt.out).mono ?_
          rintro e w8 ⟨x, hx, rfl, hR8, hK8⟩
          have HO8 := Lib.hid (owns_keeps HOw.out hK8 hBrb)
          have HB8 := Lib.hid (HBt.out.trans hK8.below)
          have HF8 : Hid (OwnF w.heap.size w8.heap.size w8 (.slice af F.length cf) F) := Lib.hid (OwnC.mono (ownF_keeps HFk.out hK8 hlt) (Nat.le_of_lt hlt) (Nat.le_trans (OwnC.fits HFk.out) hK8.below.size) (Nat.le_refl _))
          have HS8 := Lib.hid ((own_keeps HSk.out hK8 hlt2).mono (Nat.le_of_lt hlt2) (Nat.le_trans HSk.out.fits hK8.below.size) (Nat.le_refl _))
          have HFk8 := Lib.hid (ownF_keeps HFk.out hK8 hlt)
          have HSk8 := Lib.hid (own_keeps HSk.out hK8 hlt2)
          have HR8 := Lib.hid hR8
          clear hK8 hR8 HOw HBt HFt HSt HFk HSk HRt hd hd'
          by_cases hx0 : x = 0
          · subst hx0
            go_wp2_with fail
            refine (pick_pos w.heap.size (70 + 1) (R.length : Int) _ (by omega) (by omega) HR8.out).mono ?_
            rintro e w9 ⟨q, hq, rfl, hR9, hK9⟩
            have hown := owns_keeps HO8.out hK9 hBrb
            have HB9 := Lib.hid (HB8.out.trans hK9.below)
            have HFk9 := Lib.hid (ownF_keeps HFk8.out hK9 hlt)
            have HSk9 := Lib.hid (own_keeps HSk8.out hK9 hlt2)
            have hqn : q < R.length := by omega
            have c0 : w9.cell? ⟨g, q, none⟩ = some (.int .i64 (R.getD q 0)) := by rw [hown.cellAt q (by omega)]; exact getD_map_int R q (by omega)
            have f0 : w9.frozen? ⟨g, q, none⟩ = false := hown.frozenAt q
            have HS := Lib.hid (fun z : Int => hown.stored q (.int .i64 z))
            have hgb : w4.heap.size ≤ g := hg1
            clear hK9 hR9 hown HO8 HB8 HF8 HS8 HR8 HFk8 HSk8
            generalize R.getD q 0 = y at *
            go_wp2_with fail
            refine bodyPost_ret (v := .tuple #[.slice af F.length cf, u, .slice (some ⟨g, 0, none⟩) R.length cp]) (by simp [results, Try.results38, go_sem]) rfl ⟨_, u, _, F, S, R.set q (wrap64 (y + 1)), hF, hS, by rw [List.length_set]; exact hP10, rfl, ?_, ?_, ?_, HB9.out.setCell (by show w.heap.size ≤ g; omega) _⟩
            · exact OwnC.mono (⟨(OwnC.row HFk9.out).kept (HS.out (wrap64 (y + 1))).2 (.inr (fun e => by have := OwnC.top HFk9.out g e; omega)), OwnC.top HFk9.out, Nat.le_trans (OwnC.fits HFk9.out) (HS.out (wrap64 (y + 1))).2.size⟩ : OwnC _ _ _ _ _ _ _ _) (Nat.le_of_lt hlt) (Nat.le_trans (OwnC.fits HFk9.out) (HS.out (wrap64 (y + 1))).2.size) (Nat.le_refl _)
            · exact (⟨HSk9.out.row.kept (HS.out (wrap64 (y + 1))).2 (.inr (fun e => by have := HSk9.out.top g e; omega)), HSk9.out.top, Nat.le_trans HSk9.out.fits (HS.out (wrap64 (y + 1))).2.size⟩ : OwnI _ _ _ _ _).mono (Nat.le_of_lt hlt2) (Nat.le_trans HSk9.out.fits (HS.out (wrap64 (y + 1))).2.size) (Nat.le_refl _)
            · have h := (HS.out (wrap64 (y + 1))).1
              rw [← List.map_set] at h
              exact (own_rowD h (List.length_set.trans rfl)).mono hBle (Nat.le_refl _) (Nat.le_refl _)
          · have hxe : ((x : Int) == 0) = false := by simpa using hx0
            have HOx := Lib.hid ((own_rowD HO8.out rfl).mono hBle (Nat.le_refl _) (Nat.le_refl _))
            go_wp2_with fail
            exact bodyPost_ret (v := .tuple #[.slice af F.length cf, u, .slice (some ⟨g, 0, none⟩) R.length cp]) (by simp [results, Try.results38, go_sem]) rfl ⟨_, u, _, F, S, R, hF, hS, by omega, rfl, HF8.out, HS8.out, HOx.out, HB8.out⟩
end Go.Proofs.Ytfiogefigjnaiaa
