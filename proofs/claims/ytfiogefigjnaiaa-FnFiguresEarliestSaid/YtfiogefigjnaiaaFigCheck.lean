/- Checking pages of figures: the program's function. -/
import Derived.Test.YtfiogefigjnaiaaFigPlaceS
namespace Go.Proofs.Ytfiogefigjnaiaa
open Go.RowKit
set_option maxHeartbeats 2000000
set_option maxRecDepth 100000

theorem quiet_within (n a b : Int) (w : World) (m : Nat) : Calls Try.prog 37 #[.int .i64 n, .int .i64 a, .int .i64 b] (w.drewN m) fun e w'' => e = .returned (.bool (decide (a ≤ n ∧ n ≤ b))) ∧ ∃ q, w'' = w.drewN q :=
  (within_any n a b _).mono fun _ _ ⟨he, hw⟩ => ⟨he, m, hw.symm⟩
/-- One step of the check. -/
def chOne (F : List (Int × Int)) (S P l : List Int) (k : Nat) : Bool := decide (fp F k ≤ P.getD k 0 ∧ prevP P k ≤ P.getD k 0 ∧ P.getD k 0 ≤ (S.length : Int) - 1 ∧ fh F k ≤ l.getD (P.getD k 0).toNat 0)
theorem chS_step {F : List (Int × Int)} {S P l : List Int} {k : Nat} (h : chS F S P k = some l) : chS F S P (k + 1) = if chOne F S P l k = true then some (l.set (P.getD k 0).toNat (l.getD (P.getD k 0).toNat 0 - fh F k)) else none := by
  rw [chS, h]
  unfold chOne
  simp only [decide_eq_true_eq]
theorem checkS_no1 {F : List (Int × Int)} {S P : List Int} (h : okF F = false) : checkS F S P = false := by unfold checkS; rw [h]; rfl
theorem checkS_no2 {F : List (Int × Int)} {S P : List Int} (h : okS S = false) : checkS F S P = false := by unfold checkS; rw [h]; simp
theorem checkS_no3 {F : List (Int × Int)} {S P : List Int} (h : ¬ P.length = F.length) : checkS F S P = false := by unfold checkS; rw [decide_eq_false h]; simp
theorem checkS_no4 {F : List (Int × Int)} {S P : List Int} (h : chS F S P F.length = none) : checkS F S P = false := by unfold checkS; rw [h]; simp
theorem checkS_yes {F : List (Int × Int)} {S P l : List Int} (h1 : okF F = true) (h2 : okS S = true) (h3 : P.length = F.length) (h4 : chS F S P F.length = some l) : checkS F S P = true := by unfold checkS; rw [h1, h2, decide_eq_true h3, h4]; rfl
theorem prevP_succ (P : List Int) (k : Nat) : prevP P (k + 1) = P.getD k 0 := rfl

theorem checkFigures_any (v u t : Value) (F : List (Int × Int)) (S P : List Int) (w : World) (h : SlF w v F) (hu : SlI w u S) (ht : SlI w t P) :
    Calls Try.prog 22 #[v, u, t] w fun e w' => e = .returned (.bool (checkS F S P)) ∧ Below w.heap.size w w' := by
  have HF := Lib.hid h
  have HS := Lib.hid hu
  have HT := Lib.hid ht
  obtain ⟨af, cf, rfl⟩ : ∃ a c, v = .slice a F.length c := by obtain ⟨a, c, e, _⟩ := HF.out; exact ⟨a, c, e⟩
  obtain ⟨at', ct, rfl⟩ : ∃ a c, t = .slice a P.length c := by obtain ⟨a, c, e, _⟩ := HT.out; exact ⟨a, c, e⟩
  have hfc : F.length ≤ cf ∧ cf ≤ maxLen := by obtain ⟨_, _, e, h1, h2, _⟩ := HF.out; injection e with _ _ e; subst e; exact ⟨h1, h2⟩
  have htc : P.length ≤ ct ∧ ct ≤ maxLen := by obtain ⟨_, _, e, h1, h2, _⟩ := HT.out; injection e with _ _ e; subst e; exact ⟨h1, h2⟩
  unfold maxLen at hfc htc
  clear h hu ht
  cases hok : okF F
  · have HN := Lib.hid (checkS_no1 (S := S) (P := P) hok)
    go_enter Try.func22, Try.ntmps22
    go_wp2_with fail
    refine (validFigures_any _ F _ HF.out).mono ?_
    rintro e w1 ⟨rfl, b1⟩
    rw [hok]
    have HB := Lib.hid b1
    clear b1
    go_wp2_with fail
    go_ret
    rw [HN.out]
    exact ⟨rfl, HB.out⟩
  · cases hos : okS S
    · have HN := Lib.hid (checkS_no2 (F := F) (P := P) hos)
      go_enter Try.func22, Try.ntmps22
      go_wp2_with fail
      refine (validFigures_any _ F _ HF.out).mono ?_
      rintro e w1 ⟨rfl, b1⟩
      rw [hok]
      have HB := Lib.hid b1
      have HS1 := Lib.hid (HS.out.below b1)
      clear b1
      go_wp2_with (go_at_call 32; refine (validSpaces_any u S _ HS1.out).mono ?_; rintro e w' ⟨rfl, rfl⟩)
      go_ret
      rw [HN.out]
      exact ⟨rfl, HB.out⟩
    · by_cases hlen : P.length = F.length
      · have HOk := Lib.hid (okF_at hok)
        have hFl := (okF_at hok).1
        have hSl := (okS_at hos).1
        have HRm := Lib.hid (fun k hk l => chS_room (F := F) (S := S) (P := P) hok hos k hk l)
        have HNo := Lib.hid (chS_none F S P)
        have HFin : Hid (∀ l, chS F S P F.length = some l → checkS F S P = true) := Lib.hid (fun l h => checkS_yes hok hos hlen h)
        have HFno : Hid (chS F S P F.length = none → checkS F S P = false) := checkS_no4
        have HT2 : Hid (∀ k, k < F.length → ∃ b off, at' = some ⟨b, off, none⟩ ∧ b < w.heap.size ∧ ∀ j, j < F.length → w.cell? ⟨b, off + j, none⟩ = some (.int .i64 (P.getD j 0))) := fun k hk => by rw [← hlen]; exact HT.out.cells (by omega)
        have HC : Hid (∀ k, k < F.length → ∃ b off, af = some ⟨b, off, none⟩ ∧ b < w.heap.size ∧ ∀ i, i < F.length → w.cell? ⟨b, off + i * 2, none⟩ = some (.int .i64 (fh F i)) ∧ w.cell? ⟨b, off + i * 2 + 1, none⟩ = some (.int .i64 (fp F i))) := fun k hk => (HF.out.cells (by omega)).2
        have HOne : Hid (∀ k, k < F.length → (1 ≤ fh F k ∧ fh F k ≤ 1000) ∧ 0 ≤ fp F k ∧ fp F k ≤ 11) := fun k hk => by have := okF1_iff.1 (HOk.out.2 k hk); omega
        have hnn : ((P.length : Int) != (F.length : Int)) = false := by rw [hlen]; simp
        clear HT HOk
        go_enter Try.func22, Try.ntmps22
        go_wp2_with fail
        refine (validFigures_any _ F _ HF.out).mono ?_
        rintro e w1 ⟨rfl, b1⟩
        rw [hok]
        have HS1 := Lib.hid (HS.out.below b1)
        go_wp2_with (go_at_call 32; refine (validSpaces_any u S _ HS1.out).mono ?_; rintro e w' ⟨rfl, rfl⟩)
        refine (clone_any u S _ HS1.out (by omega)).mono ?_
        rintro e w2 ⟨vl, rfl, ol, b2⟩
        have HB := Lib.hid (b1.trans (b2.mono b1.size))
        have HL0 := Lib.hid (ol.mono b1.size (Nat.le_refl _) (Nat.le_refl _))
        obtain ⟨al, cl, rfl⟩ : ∃ a c, vl = .slice a S.length c := by obtain ⟨a, c, e, _⟩ := ol.sl; exact ⟨a, c, e⟩
        have hlc : S.length ≤ cl ∧ cl ≤ maxLen := by obtain ⟨_, _, e, h1, h2, _⟩ := ol.sl; injection e with _ _ e; subst e; exact ⟨h1, h2⟩
        unfold maxLen at hlc
        have HP0 : Hid (chS F S P 0 = some S) := rfl
        have hw2 : w.heap.size ≤ w2.heap.size := HB.out.size
        have HStp : Hid (∀ (k : Nat) (l : List Int), chS F S P k = some l → chS F S P (k + 1) = if chOne F S P l k = true then some (l.set (P.getD k 0).toNat (l.getD (P.getD k 0).toNat 0 - fh F k)) else none) := Lib.hid (fun k l h => chS_step h)
        have HChO : Hid (∀ (k : Nat) (l : List Int), chOne F S P l k = decide (fp F k ≤ P.getD k 0 ∧ prevP P k ≤ P.getD k 0 ∧ P.getD k 0 ≤ (S.length : Int) - 1 ∧ fh F k ≤ l.getD (P.getD k 0).toNat 0)) := Lib.hid (fun k l => rfl)
        have HPv := Lib.hid (prevP_succ P)
        clear b1 b2 ol hok hos HS HF HS1
        generalize hnF : F.length = n at *
        generalize hSm : S.length = m at *
        clear hlen hnF
        go_wp2_with fail
        go_loopw [8, 31] (fun lv i wr => ∃ (k : Nat) (p0 : Int) (l : List Int), k ≤ n ∧ i = .int .i64 k ∧ lv = .int .i64 p0 ∧ 0 ≤ p0 ∧ p0 ≤ 12 ∧ l.length = m ∧ Hid (prevP P k = p0) ∧ Hid (chS F S P k = some l) ∧ w2.heap.size ≤ wr.heap.size ∧ Hid (Below w.heap.size w wr) ∧ Hid (OwnI w.heap.size w2.heap.size wr (.slice al m cl) l)) (fun _ i _ => n - (intOf i).toNat)
        case atStart => exact ⟨0, 0, S, by omega, rfl, rfl, by omega, by omega, hSm, rfl, HP0, Nat.le_refl _, HB, HL0⟩
        case round =>
          obtain ⟨k, p0, l, hk, rfl, rfl, hp0, hp1, hlm, HPr, HP, hbf, HB2, HL⟩ := hrel
          by_cases hlt : k < n
          · obtain ⟨b, off, rfl, hb, hc⟩ := HC.out k hlt
            obtain ⟨bt, offt, rfl, hbt, hct⟩ := HT2.out k hlt
            have c0 := (HB2.out.cell (p := ⟨b, off + k * 2, none⟩) hb).trans (hc k hlt).1
            have c1 := (HB2.out.cell (p := ⟨b, off + k * 2 + 1, none⟩) hb).trans (hc k hlt).2
            have c2 := (HB2.out.cell (p := ⟨bt, offt + k, none⟩) hbt).trans (hct k hlt)
            have hbw : b < wr.heap.size := Nat.lt_of_lt_of_le hb HB2.out.size
            have hbtw : bt < wr.heap.size := Nat.lt_of_lt_of_le hbt HB2.out.size
            have hxy := HOne.out k hlt
            have HSk := Lib.hid (HStp.out k l HP.out)
            have HCk := Lib.hid (HChO.out k l)
            have HPk := Lib.hid (HPv.out k)
            rw [HPr.out] at HCk
            clear hc hct HStp HChO HPv
            generalize fh F k = x at *
            generalize fp F k = y at *
            generalize P.getD k 0 = p at *
            have hbel : Below wr.heap.size wr (wr.alloc (.cells #[.int .i64 x, .int .i64 y] 46)) := (Below.refl _ _).alloc (Nat.le_refl _) _
            have HB3 := Lib.hid (HB2.out.trans (hbel.mono HB2.out.size))
            have HL1 := Lib.hid (HL.out.below hbel)
            have hf0 : (wr.alloc (.cells #[.int .i64 x, .int .i64 y] 46)).cell? ⟨wr.heap.size, 0, none⟩ = some (.int .i64 x) := by simp [go_sem]
            have hf1 : (wr.alloc (.cells #[.int .i64 x, .int .i64 y] 46)).cell? ⟨wr.heap.size, 1, none⟩ = some (.int .i64 y) := by simp [go_sem]
            have HF0 := Lib.hid hf0
            have HF1 := Lib.hid hf1
            have hs1 : w2.heap.size ≤ (wr.alloc (.cells #[.int .i64 x, .int .i64 y] 46)).heap.size := Nat.le_trans hbf hbel.size
            clear hbel hf0 hf1 HB2 HL
            go_wp2_with fail
            generalize wr.alloc (.cells #[.int .i64 x, .int .i64 y] 46) = W1 at *
            have f0 := HF0.out
            have f1 := HF1.out
            generalize wr.heap.size = bf at *
            clear c0 c1 c2 HF0 HF1
            have hwm : IntKind.i64.wrap ((m : Int) - 1) = (m : Int) - 1 := IntWalk.i64_in _ (by omega)
            by_cases hin : max p0 y ≤ p ∧ p ≤ (m : Int) - 1
            · have hd : decide (max p0 y ≤ p ∧ p ≤ (m : Int) - 1) = true := by simpa using hin
              obtain ⟨q, rfl⟩ := Int.eq_ofNat_of_zero_le (show 0 ≤ p by omega)
              have hqm : q < m := by omega
              rw [Int.toNat_natCast] at HSk HCk
              obtain ⟨g, rfl, hg0⟩ : ∃ g, al = some ⟨g, 0, none⟩ ∧ w.heap.size ≤ g ∧ g < w2.heap.size := by
                rcases HL1.out.row.2 with ⟨e, h0⟩ | ⟨g, c, cur, e, h0, _⟩
                · omega
                · injection e with e1
                  exact ⟨g, e1, h0, HL1.out.top g (by rw [e1]; rfl)⟩
              have HRow : Hid (W1.ownsRow w.heap.size 3 1 (.slice (some ⟨g, 0, none⟩) m cl) m (l.map (Value.int .i64))) := Lib.hid (by have := HL1.out.row; rw [hlm] at this; exact this)
              have c2 : W1.cell? ⟨g, q, none⟩ = some (.int .i64 (l.getD q 0)) := by
                have := HRow.out.cellAt q (by omega)
                rw [getD_map_int l q (by omega)] at this
                exact this
              have fz : W1.frozen? ⟨g, q, none⟩ = false := HRow.out.frozenAt q
              obtain ⟨hz0, hz1⟩ : 0 ≤ l.getD q 0 ∧ l.getD q 0 ≤ 10000 := (HRm.out k hk l HP.out).2 q (by omega)
              generalize l.getD q 0 = z at *
              by_cases hlx : z < x
              · have hdl : decide (z < x) = true := by simpa using hlx
                have HNy : Hid (checkS F S P = false) := Lib.hid (by
                  have h0 : chOne F S P l k = false := by rw [HCk.out]; simp; omega
                  have h1 : chS F S P (k + 1) = none := by rw [HSk.out, h0]; rfl
                  exact HFno.out (HNo.out (k + 1) h1 n (by omega)))
                clear hin HSk HCk hlx
                go_quiet ((go_at_call 37; exact quiet_within _ _ _ _ _))
                go_wp2_with fail
                go_ret
                rw [HNy.out]
                exact ⟨rfl, below_drewN HB3.out nq⟩
              · have hdl : decide (z < x) = false := by simpa using hlx
                have HNx : Hid (chS F S P (k + 1) = some (l.set q (z - x))) := Lib.hid (by
                  have h0 : chOne F S P l k = true := by rw [HCk.out]; simp; omega
                  rw [HSk.out, h0]; rfl)
                clear hin HSk HCk hlx
                go_quiet ((go_at_call 37; exact quiet_within _ _ _ _ _))
                go_wp2_with fail
                have c4 : (W1.drewN nq).cell? ⟨g, q, none⟩ = some (.int .i64 z) := c2
                have f4 : (W1.drewN nq).cell? ⟨bf, 0, none⟩ = some (.int .i64 x) := f0
                have z4 : (W1.drewN nq).frozen? ⟨g, q, none⟩ = false := fz
                have HST : Hid (∀ u : Int, Below w.heap.size w ((W1.drewN nq).setCell ⟨g, q, none⟩ (.int .i64 u)).drew ∧ OwnI w.heap.size w2.heap.size ((W1.drewN nq).setCell ⟨g, q, none⟩ (.int .i64 u)).drew (.slice (some ⟨g, 0, none⟩) m cl) (l.set q u) ∧ w2.heap.size ≤ ((W1.drewN nq).setCell ⟨g, q, none⟩ (.int .i64 u)).drew.heap.size) := Lib.hid (fun u => by
                  have hr : (W1.drewN nq).ownsRow w.heap.size 3 1 (.slice (some ⟨g, 0, none⟩) m cl) m (l.map (Value.int .i64)) := HRow.out
                  have hs := hr.stored q (.int .i64 u)
                  have hl : (l.set q u).length = m := by simpa using hlm
                  have hsz : w2.heap.size ≤ ((W1.drewN nq).setCell ⟨g, q, none⟩ (.int .i64 u)).heap.size := Nat.le_trans HL1.out.fits hs.2.size
                  refine ⟨((below_drewN HB3.out nq).setCell hg0.1 _).drew, ⟨?_, fun j hj => (show g = j by simpa [Value.ownBlock] using hj) ▸ hg0.2, hsz⟩, hsz⟩
                  have := hs.1
                  rw [← List.map_set] at this
                  rw [hl]; exact this)
                obtain ⟨s1, s2, s4⟩ := HST.out (z - x)
                clear HST c2 f0 f1 fz
                generalize W1.drewN nq = W2 at *
                go_region
                generalize (W2.setCell ⟨g, q, none⟩ (.int .i64 (z - x))).drew = W3 at *
                have hl2 : (l.set q (z - x)).length = m := by simpa using hlm
                generalize l.set q (z - x) = l2 at *
                have S1 := Lib.hid s1
                have S2 := Lib.hid s2
                clear s1 s2 c4 f4 z4 HL1 HRow HL0 HB3
                go_wp2_with fail
                go_roundw
                case rel => exact ⟨k + 1, (q : Int), l2, by omega, by go_num, rfl, by omega, by omega, hl2, HPk, HNx, s4, S1, S2⟩
                case measure => simp [intOf]; omega
            · have hd : decide (max p0 y ≤ p ∧ p ≤ (m : Int) - 1) = false := by simpa using hin
              have HNy : Hid (checkS F S P = false) := Lib.hid (by
                have h0 : chOne F S P l k = false := by rw [HCk.out]; simp; omega
                have h1 : chS F S P (k + 1) = none := by rw [HSk.out, h0]; rfl
                exact HFno.out (HNo.out (k + 1) h1 n (by omega)))
              clear hin HSk HCk
              go_quiet ((go_at_call 37; exact quiet_within _ _ _ _ _))
              go_wp2_with fail
              go_ret
              rw [HNy.out]
              exact ⟨rfl, below_drewN HB3.out nq⟩
          · obtain rfl : k = n := by omega
            have HNy := Lib.hid (HFin.out l HP.out)
            go_wp2_with fail
            go_ret
            rw [HNy.out]
            exact ⟨rfl, HB2.out⟩
      · have HN := Lib.hid (checkS_no3 (S := S) hlen)
        have hnn : ((P.length : Int) != (F.length : Int)) = true := by simpa using fun h => hlen (by omega)
        go_enter Try.func22, Try.ntmps22
        go_wp2_with fail
        refine (validFigures_any _ F _ HF.out).mono ?_
        rintro e w1 ⟨rfl, b1⟩
        rw [hok]
        have HB := Lib.hid b1
        have HS1 := Lib.hid (HS.out.below b1)
        clear b1 hlen
        go_wp2_with (go_at_call 32; refine (validSpaces_any u S _ HS1.out).mono ?_; rintro e w' ⟨rfl, rfl⟩)
        go_ret
        rw [HN.out]
        exact ⟨rfl, HB.out⟩
end Go.Proofs.Ytfiogefigjnaiaa
