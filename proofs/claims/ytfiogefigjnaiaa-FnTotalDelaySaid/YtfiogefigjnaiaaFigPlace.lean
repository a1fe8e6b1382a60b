/- Placing figures: the program's function. -/
import Derived.Test.YtfiogefigjnaiaaFig
import Derived.Test.YtfiogefigjnaiaaDrawCols
import Derived.Test.YtfiogefigjnaiaaShelf
namespace Go.Proofs.Ytfiogefigjnaiaa
open Go.RowKit
set_option maxHeartbeats 1000000
set_option maxRecDepth 100000

theorem clone_any (v : Value) (S : List Int) (w : World) (h : SlI w v S) (hl : S.length ≤ 1000000) :
    Calls Try.prog 33 #[v] w (GaveI S w) := by
  obtain ⟨a, cap, rfl, h1, h2, h3⟩ := h
  rcases h3 with rfl | ⟨b, off, rfl, hb, hc⟩
  · cases a with
    | none => exact (Try.slices_Clone_int_nil _ cap w).mono fun e w' ⟨he, hw⟩ => ⟨_, he, ⟨World.ownsRow_nil .., fun k hk => by simp [Value.ownBlock] at hk, by rw [hw]; exact Nat.le_refl _⟩, by rw [hw]; exact Below.refl _ _⟩
    | some x => exact (Try.slices_Clone_int_zero x cap w).mono fun e w' ⟨v', he, ho, _, hb⟩ => ⟨v', he, (own_rowD (L := []) ho rfl).mono (Nat.le_refl _) (Nat.le_refl _) (Nat.le_refl _), hb⟩
  · refine (Try.slices_Clone_int b off S.length cap S w (Nat.le_refl _) (by omega) hc).mono ?_
    rintro e w' ⟨v', he, ho, _, hb⟩
    rw [List.take_length] at ho
    exact ⟨v', he, own_rowD ho rfl, hb⟩

/-- What PlaceFigures returns. -/
def Placed (F : List (Int × Int)) (S : List Int) (w : World) (e : Ending) (w' : World) : Prop :=
  ∃ v, e = .returned (.tuple #[v, .bool (placeS F S).isSome]) ∧ OwnI w.heap.size w'.heap.size w' v ((placeS F S).getD []) ∧ Below w.heap.size w w'
theorem Placed.no {F : List (Int × Int)} {S : List Int} {w w' : World} {e : Ending} (hf : placeS F S = none) (hb : Below w.heap.size w w') (he : e = .returned (.tuple #[.slice none 0 0, .bool false])) : Placed F S w e w' :=
  ⟨_, by rw [hf]; exact he, by rw [hf]; exact ⟨World.ownsRow_nil .., fun k hk => by simp [Value.ownBlock] at hk, Nat.le_refl _⟩, hb⟩
theorem Placed.yes {F : List (Int × Int)} {S out : List Int} {w w' : World} {e : Ending} {v : Value} (hf : placeS F S = some out) (hb : Below w.heap.size w w') (ho : OwnI w.heap.size w'.heap.size w' v out) (he : e = .returned (.tuple #[v, .bool true])) : Placed F S w e w' :=
  ⟨v, by rw [hf]; exact he, by rw [hf]; exact ho, hb⟩

theorem plS_succ {F : List (Int × Int)} {S l out : List Int} {k pg : Nat} (h : plS F S k = some (l, pg, out)) (r : Nat) (h1 : max pg (fp F k).toNat ≤ r) (h2 : ∀ j, max pg (fp F k).toNat ≤ j → j < r → j < l.length ∧ l.getD j 0 < fh F k) (h3 : ¬ (r < l.length ∧ l.getD r 0 < fh F k)) :
    plS F S (k + 1) = if r < l.length then some (l.set r (l.getD r 0 - fh F k), r, out ++ [(r : Int)]) else none := by
  rw [plS, h]
  simp only
  rw [nextP_uniq l (fh F k) _ r h1 h2 h3]

theorem placeFigures_any (v u : Value) (F : List (Int × Int)) (S : List Int) (w : World) (h : SlF w v F) (hu : SlI w u S) :
    Calls Try.prog 16 #[v, u] w (Placed F S w) := by
  have HF := Lib.hid h
  have HS := Lib.hid hu
  cases hok : okF F
  · have HN : Hid (placeS F S = none) := Lib.hid (by unfold placeS; rw [hok]; rfl)
    clear h hu
    go_enter Try.func16, Try.ntmps16
    go_wp2_with fail
    refine (validFigures_any v F _ HF.out).mono ?_
    rintro e w1 ⟨rfl, b1⟩
    rw [hok]
    have HB := Lib.hid b1
    clear b1
    go_wp2_with fail
    go_ret2
    exact Placed.no HN.out HB.out rfl
  · cases hos : okS S
    · have HN : Hid (placeS F S = none) := Lib.hid (by unfold placeS; rw [hok, hos]; rfl)
      clear h hu
      go_enter Try.func16, Try.ntmps16
      go_wp2_with fail
      refine (validFigures_any v F _ HF.out).mono ?_
      rintro e w1 ⟨rfl, b1⟩
      rw [hok]
      have HB := Lib.hid b1
      have HS1 := Lib.hid (HS.out.below b1)
      clear b1
      go_wp2_with (go_at_call 32; refine (validSpaces_any u S _ HS1.out).mono ?_; rintro e w' ⟨rfl, rfl⟩)
      go_ret2
      exact Placed.no HN.out HB.out rfl
    · have HPl : Hid (placeS F S = (plS F S F.length).map (fun t => t.2.2)) := Lib.hid (by unfold placeS; rw [hok, hos]; rfl)
      have HOk := Lib.hid (okF_at hok)
      have hFl := (okF_at hok).1
      have hSl := (okS_at hos).1
      have HRm := Lib.hid (fun k hk l pg out => plS_room (F := F) (S := S) hok hos k hk l pg out)
      have HNo := Lib.hid (plS_none F S)
      clear h hu
      go_enter Try.func16, Try.ntmps16
      go_wp2_with fail
      refine (validFigures_any v F _ HF.out).mono ?_
      rintro e w1 ⟨rfl, b1⟩
      rw [hok]
      have HS1 := Lib.hid (HS.out.below b1)
      have HF1 := Lib.hid (HF.out.below b1)
      go_wp2_with (go_at_call 32; refine (validSpaces_any u S _ HS1.out).mono ?_; rintro e w' ⟨rfl, rfl⟩)
      refine (clone_any u S _ HS1.out (by omega)).mono ?_
      rintro e w2 ⟨vl, rfl, ol, b2⟩
      have HB := Lib.hid (b1.trans (b2.mono b1.size))
      have HF2 := Lib.hid (HF1.out.below b2)
      have HL0 := Lib.hid (ol.mono b1.size (Nat.le_refl _) (Nat.le_refl _))
      obtain ⟨al, cl, rfl⟩ : ∃ a c, vl = .slice a S.length c := by obtain ⟨a, c, e, _⟩ := ol.sl; exact ⟨a, c, e⟩
      have hlc : S.length ≤ cl ∧ cl ≤ maxLen := by obtain ⟨_, _, e, h1, h2, _⟩ := ol.sl; injection e with _ _ e; subst e; exact ⟨h1, h2⟩
      obtain ⟨af, cf, rfl⟩ : ∃ a c, v = .slice a F.length c := by obtain ⟨a, c, e, _⟩ := HF.out; exact ⟨a, c, e⟩
      have hfc : F.length ≤ cf ∧ cf ≤ maxLen := by obtain ⟨_, _, e, h1, h2, _⟩ := HF.out; injection e with _ _ e; subst e; exact ⟨h1, h2⟩
      unfold maxLen at hlc hfc
      have HO0 : Hid (OwnI w2.heap.size w2.heap.size w2 (.slice none 0 0) []) := Lib.hid ⟨World.ownsRow_nil .., fun k hk => by simp [Value.ownBlock] at hk, Nat.le_refl _⟩
      have HP0 : Hid (plS F S 0 = some (S, 0, [])) := rfl
      have HC : Hid (∀ k, k < F.length → ∃ b off, af = some ⟨b, off, none⟩ ∧ b < w.heap.size ∧ ∀ i, i < F.length → w.cell? ⟨b, off + i * 2, none⟩ = some (.int .i64 (fh F i)) ∧ w.cell? ⟨b, off + i * 2 + 1, none⟩ = some (.int .i64 (fp F i))) := fun k hk => (HF.out.cells (by omega)).2
      have hw2 : w.heap.size ≤ w2.heap.size := HB.out.size
      have HOne : Hid (∀ k, k < F.length → (1 ≤ fh F k ∧ fh F k ≤ 1000) ∧ 0 ≤ fp F k ∧ fp F k ≤ 11) := fun k hk => by have := okF1_iff.1 (HOk.out.2 k hk); omega
      clear b1 b2 ol hok hos HS HF HS1 HF1 HF2 HOk
      have HSc : Hid (∀ (k : Nat) (l out : List Int) (pg r : Nat), plS F S k = some (l, pg, out) → max pg (fp F k).toNat ≤ r → (∀ j, max pg (fp F k).toNat ≤ j → j < r → j < l.length ∧ l.getD j 0 < fh F k) → ¬ (r < l.length ∧ l.getD r 0 < fh F k) → plS F S (k + 1) = if r < l.length then some (l.set r (l.getD r 0 - fh F k), r, out ++ [(r : Int)]) else none) := fun k l out pg r h h1 h2 h3 => plS_succ h r h1 h2 h3
      generalize hnn : F.length = n at *
      generalize hSm : S.length = m at *
      clear hnn
      go_wp2_with fail
      go_loopw [7, 8, 23] (fun vo pgv i wr => ∃ (k pg : Nat) (l out : List Int), k ≤ n ∧ i = .int .i64 k ∧ pgv = .int .i64 pg ∧ pg ≤ 12 ∧ l.length = m ∧ out.length = k ∧ Hid (plS F S k = some (l, pg, out)) ∧ w2.heap.size ≤ wr.heap.size ∧ Hid (Below w.heap.size w wr) ∧ Hid (OwnI w.heap.size w2.heap.size wr (.slice al m cl) l) ∧ Hid (OwnI w2.heap.size wr.heap.size wr vo out)) (fun _ _ i _ => n - (intOf i).toNat)
      case atStart => exact ⟨0, 0, S, [], by omega, rfl, rfl, by omega, hSm, rfl, HP0, Nat.le_refl _, HB, HL0, HO0⟩
      case round =>
        obtain ⟨k, pg, l, out, hk, rfl, rfl, hpg, hlm, hok, HP, hbf, HB2, HL, HO⟩ := hrel
        by_cases hlt : k < n
        · obtain ⟨b, off, rfl, hb, hc⟩ := HC.out k hlt
          have c0 := (HB2.out.cell (p := ⟨b, off + k * 2, none⟩) hb).trans (hc k hlt).1
          have c1 := (HB2.out.cell (p := ⟨b, off + k * 2 + 1, none⟩) hb).trans (hc k hlt).2
          have hbw : b < wr.heap.size := Nat.lt_of_lt_of_le hb HB2.out.size
          have hxy := HOne.out k hlt
          have HSk := Lib.hid (HSc.out k l out pg)
          clear hc
          obtain ⟨y, hy⟩ := Int.eq_ofNat_of_zero_le hxy.2.1
          rw [hy] at c1 hxy HSk
          rw [Int.toNat_natCast] at HSk
          clear hy
          generalize fh F k = x at *
          have hp0 : max pg y ≤ 12 := by omega
          have hbel : Below wr.heap.size wr (wr.alloc (.cells #[.int .i64 x, .int .i64 y] 46)) := (Below.refl _ _).alloc (Nat.le_refl _) _
          have HB3 := Lib.hid (HB2.out.trans (hbel.mono HB2.out.size))
          have HL1 := Lib.hid (HL.out.below hbel)
          have HO1 := Lib.hid (HO.out.below hbel)
          have hf0 : (wr.alloc (.cells #[.int .i64 x, .int .i64 y] 46)).cell? ⟨wr.heap.size, 0, none⟩ = some (.int .i64 x) := by simp [go_sem]
          have HF0 := Lib.hid hf0
          clear hbel hf0 HB2 HL HO
          go_wp2_with fail
          rw [show max (pg : Int) (y : Int) = ((max pg y : Nat) : Int) by omega]
          generalize max pg y = p0 at *
          generalize wr.alloc (.cells #[.int .i64 x, .int .i64 y] 46) = W1 at *
          have f0 := HF0.out
          generalize wr.heap.size = bf at *
          clear c0 c1 HF0
          go_loopw [8] (fun pv wx => ∃ q : Nat, p0 ≤ q ∧ pv = .int .i64 q ∧ q ≤ 12 ∧ Hid (∀ j, p0 ≤ j → j < q → j < m ∧ l.getD j 0 < x) ∧ Hid (∃ d, wx = W1.drewN d)) (fun pv _ => 13 - (intOf pv).toNat)
          case atStart => exact ⟨p0, Nat.le_refl _, rfl, hp0, Lib.hid (fun j h1 h2 => by omega), Lib.hid ⟨0, rfl⟩⟩
          case round =>
            obtain ⟨q, hq, rfl, hq12, HQ, HD⟩ := hrel
            by_cases hqm : q < m
            · have hdm : decide (q < m) = true := by simpa using hqm
              obtain ⟨g, rfl, hg0⟩ : ∃ g, al = some ⟨g, 0, none⟩ ∧ w.heap.size ≤ g ∧ g < w2.heap.size := by
                rcases HL1.out.row.2 with ⟨e, h0⟩ | ⟨g, c, cur, e, h0, _⟩
                · omega
                · injection e with e1
                  exact ⟨g, e1, h0, HL1.out.top g (by rw [e1]; rfl)⟩
              have HRow : Hid (W1.ownsRow w.heap.size 3 1 (.slice (some ⟨g, 0, none⟩) m cl) m (l.map (Value.int .i64))) := Lib.hid (by have := HL1.out.row; rw [hlm] at this; exact this)
              have c2 : wr.cell? ⟨g, q, none⟩ = some (.int .i64 (l.getD q 0)) := by
                obtain ⟨d, rfl⟩ := HD.out
                have := HRow.out.cellAt q (by omega)
                rw [getD_map_int l q (by omega)] at this
                exact this
              have f1 : wr.cell? ⟨bf, 0, none⟩ = some (.int .i64 x) := by obtain ⟨d, rfl⟩ := HD.out; exact f0
              have fz : wr.frozen? ⟨g, q, none⟩ = false := by obtain ⟨d, rfl⟩ := HD.out; show W1.frozen? ⟨g, q, none⟩ = false; exact HRow.out.frozenAt q
              by_cases hlx : l.getD q 0 < x
              · have hdl : decide (l.getD q 0 < x) = true := by simpa using hlx
                have HQ2 : Hid (∀ j, p0 ≤ j → j < q + 1 → j < m ∧ l.getD j 0 < x) := Lib.hid (fun j h1 h2 => by
                  by_cases e : j = q
                  · subst e; exact ⟨hqm, hlx⟩
                  · exact HQ.out j h1 (by omega))
                generalize l.getD q 0 = z at *
                clear HQ hlx fz
                go_wp2_with fail
                go_quiet (fail)
                go_wp2_with fail
                go_roundw
                case rel => exact ⟨q + 1, by omega, by go_num, by omega, HQ2, Lib.hid (by obtain ⟨d, hd⟩ := HD.out; exact ⟨d + nq, by rw [hd, World.drewN_drewN]⟩)⟩
                case measure => simp [intOf]; omega
              · have hdl : decide (l.getD q 0 < x) = false := by simpa using hlx
                have HNx := Lib.hid (HSk.out q HP.out hq (fun j h1 h2 => by rw [hlm]; exact HQ.out j h1 h2) (fun h => hlx h.2))
                generalize hz : l.getD q 0 = z at *
                have HZ := Lib.hid hz
                clear hz hlx HQ HSk
                go_wp2_with fail
                go_quiet (fail)
                go_wp2_with fail
                have HD2 : Hid (∃ d, wr.drewN nq = W1.drewN d) := Lib.hid (by obtain ⟨d, hd⟩ := HD.out; exact ⟨d + nq, by rw [hd, World.drewN_drewN]⟩)
                have c4 : (wr.drewN nq).cell? ⟨g, q, none⟩ = some (.int .i64 z) := c2
                have f4 : (wr.drewN nq).cell? ⟨bf, 0, none⟩ = some (.int .i64 x) := f1
                have z4 : (wr.drewN nq).frozen? ⟨g, q, none⟩ = false := fz
                clear c2 f1 fz HD f0
                generalize wr.drewN nq = W2 at *
                obtain ⟨hz0, hz1⟩ : 0 ≤ z ∧ z ≤ 10000 := by
                  have := (HRm.out k hk l pg out HP.out).2.1 q (by omega)
                  rw [HZ.out] at this; exact this
                have HST : Hid (∀ u : Int, Below w.heap.size w (W2.setCell ⟨g, q, none⟩ (.int .i64 u)).drew ∧ OwnI w.heap.size w2.heap.size (W2.setCell ⟨g, q, none⟩ (.int .i64 u)).drew (.slice (some ⟨g, 0, none⟩) m cl) (l.set q u) ∧ OwnI w2.heap.size bf (W2.setCell ⟨g, q, none⟩ (.int .i64 u)).drew u7 out ∧ w2.heap.size ≤ (W2.setCell ⟨g, q, none⟩ (.int .i64 u)).drew.heap.size) := Lib.hid (fun u => by
                  obtain ⟨d, rfl⟩ := HD2.out
                  have hr : (W1.drewN d).ownsRow w.heap.size 3 1 (.slice (some ⟨g, 0, none⟩) m cl) m (l.map (Value.int .i64)) := HRow.out
                  have hs := hr.stored q (.int .i64 u)
                  have hO := HO1.out.drewN d
                  have hL := HL1.out.drewN d
                  have hl : (l.set q u).length = m := by simpa using hlm
                  have hsz : w2.heap.size ≤ ((W1.drewN d).setCell ⟨g, q, none⟩ (.int .i64 u)).heap.size := Nat.le_trans HL1.out.fits hs.2.size
                  refine ⟨((below_drewN HB3.out d).setCell hg0.1 _).drew, ⟨?_, fun j hj => (show g = j by simpa [Value.ownBlock] using hj) ▸ hg0.2, hsz⟩, (hO.beside hL hs.2 (.inr (Nat.le_refl _))).drewN 1, hsz⟩
                  have := hs.1
                  rw [← List.map_set] at this
                  rw [hl]; exact this)
                obtain ⟨s1, s2, s3, s4⟩ := HST.out (z - x)
                have HNy : Hid (plS F S (k + 1) = some (l.set q (z - x), q, out ++ [(q : Int)])) := Lib.hid (by rw [HNx.out, if_pos (by omega)])
                clear HST HNx HD2
                go_region
                generalize (W2.setCell ⟨g, q, none⟩ (.int .i64 (z - x))).drew = W3 at *
                have hl2 : (l.set q (z - x)).length = m := by simpa using hlm
                have hok2 : out.length ≤ 10 := by omega
                generalize l.set q (z - x) = l2 at *
                have S1 := Lib.hid s1
                have S2 := Lib.hid s2
                have S3 := Lib.hid s3
                clear s1 s2 s3 c4 f4 z4 HL1 HRow HL0 HO1 HB3
                go_wp2_with (at_builtin; go_must (refine wpList_append_int rfl _ _ rfl w2.heap.size _ out.length out (q : Int) S3.out.row rfl rfl (by omega) s4 ?_))
                intro v' w4 g1 g2
                have HB4 : Hid (Below w.heap.size w w4) := S1.out.grown g2 S1.out.size (fun j hj => Nat.le_trans hw2 (S3.out.row.lt j hj).1)
                have HL4 := Lib.hid (S2.out.beside S3.out g2 (.inl (Nat.le_refl _)))
                have HO4 : Hid (OwnI w2.heap.size w4.heap.size w4 v' (out ++ [(q : Int)])) := Lib.hid (own_rowD (n := k + 1) (by simpa using g1) (by simp [hok]))
                have hs4 : w2.heap.size ≤ w4.heap.size := Nat.le_trans s4 g2.size
                clear g1 g2 S1 S2 S3 s4
                go_wp2_with fail
                go_roundw
                case rel => exact ⟨k + 1, q, l2, out ++ [(q : Int)], by omega, by go_num, rfl, hq12, hl2, by simp [hok], HNy, hs4, HB4, HL4, HO4⟩
                case measure => simp [intOf]; omega
            · have hqm2 : q = m ∨ m < q := by omega
              have hdm : decide (q < m) = false := by simp; omega
              have HNx := Lib.hid (HSk.out q HP.out hq (fun j h1 h2 => by rw [hlm]; exact HQ.out j h1 h2) (fun h => by omega))
              have HNy : Hid (placeS F S = none) := Lib.hid (by
                have h1 : plS F S (k + 1) = none := by rw [HNx.out, if_neg (by omega)]
                rw [HPl.out, HNo.out (k + 1) h1 n (by omega)]; rfl)
              have HBx : Hid (Below w.heap.size w wr) := Lib.hid (by obtain ⟨d, rfl⟩ := HD.out; exact below_drewN HB3.out d)
              clear HSk HNx HQ HD hqm2 hqm
              have hge : m ≤ q := by simp at hdm; omega
              go_wp2_with fail
              go_quiet (fail)
              go_wp2_with fail
              go_ret2
              exact Placed.no HNy.out (below_drewN HBx.out nq) rfl
        · obtain rfl : k = n := by omega
          have HNy : Hid (placeS F S = some out) := Lib.hid (by rw [HPl.out, HP.out]; rfl)
          have HOx := Lib.hid (HO.out.mono hw2 (Nat.le_refl _) (Nat.le_refl _))
          go_wp2_with fail
          go_ret2
          exact Placed.yes HNy.out HB2.out HOx.out rfl
end Go.Proofs.Ytfiogefigjnaiaa
