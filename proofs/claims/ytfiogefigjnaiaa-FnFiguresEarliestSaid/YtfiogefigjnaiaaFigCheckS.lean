/- Checking pages of figures: the reference's function. -/
import Derived.Test.YtfiogefigjnaiaaFigCheck
namespace Go.Proofs.Ytfiogefigjnaiaa
open Go.RowKit
set_option maxHeartbeats 2000000
set_option maxRecDepth 100000

theorem scheckFigures_any (lo hi : Nat) (v u t : Value) (F : List (Int × Int)) (S P : List Int) (w : World) (h : SlF w v F) (hu : OwnI lo hi w u S) (ht : SlI w t P) :
    Calls Try.prog 24 #[v, u, t] w fun e w' => e = .returned (.bool (checkS F S P)) ∧ Below w.heap.size w w' := by
  have HF := Lib.hid h
  have HS := Lib.hid hu
  have HT := Lib.hid ht
  obtain ⟨af, cf, rfl⟩ : ∃ a c, v = .slice a F.length c := by obtain ⟨a, c, e, _⟩ := HF.out; exact ⟨a, c, e⟩
  obtain ⟨at', ct, rfl⟩ : ∃ a c, t = .slice a P.length c := by obtain ⟨a, c, e, _⟩ := HT.out; exact ⟨a, c, e⟩
  obtain ⟨au, cu, rfl⟩ : ∃ a c, u = .slice a S.length c := by obtain ⟨a, c, e, _⟩ := HS.out.sl; exact ⟨a, c, e⟩
  have hfc : F.length ≤ cf ∧ cf ≤ maxLen := by obtain ⟨_, _, e, h1, h2, _⟩ := HF.out; injection e with _ _ e; subst e; exact ⟨h1, h2⟩
  have htc : P.length ≤ ct ∧ ct ≤ maxLen := by obtain ⟨_, _, e, h1, h2, _⟩ := HT.out; injection e with _ _ e; subst e; exact ⟨h1, h2⟩
  unfold maxLen at hfc htc
  clear h hu ht
  cases hok : okF F
  · have HN := Lib.hid (checkS_no1 (S := S) (P := P) hok)
    go_enter Try.func24, Try.ntmps24
    go_wp2_with fail
    refine (svalidFloats_any _ F _ HF.out).mono ?_
    rintro e w1 ⟨n1, rfl, rfl⟩
    rw [hok]
    go_wp2_with fail
    go_ret
    rw [HN.out]
    exact ⟨rfl, below_drewN (Below.refl _ _) n1⟩
  · cases hos : okS S
    · have HN := Lib.hid (checkS_no2 (F := F) (P := P) hos)
      go_enter Try.func24, Try.ntmps24
      go_wp2_with fail
      refine (svalidFloats_any _ F _ HF.out).mono ?_
      rintro e w1 ⟨n1, rfl, rfl⟩
      rw [hok]
      have HB := Lib.hid (below_drewN (Below.refl w.heap.size w) n1)
      have HS1 := Lib.hid (HS.out.drewN n1)
      generalize w.drewN n1 = w1 at *
      go_wp2_with (go_at_call 30; refine (svalidSpace_any _ S _ HS1.out.sl).mono ?_; rintro e w' ⟨rfl, rfl⟩)
      go_ret
      rw [HN.out]
      exact ⟨rfl, HB.out⟩
    · by_cases hlen : P.length = F.length
      · have HOk := Lib.hid (okF_at hok)
        have hFl := (okF_at hok).1
        have hSl := (okS_at hos).1
        have HRm := Lib.hid (fun k hk l => chS_room (F := F) (S := S) (P := P) hok hos k hk l)
        have HNo := Lib.hid (chS_none F S P)
        have HFin : Hid (∀ l, chS F S P F.length = some l → checkS F S P = true) := Lib.hid (fun l h => checkS_yes hok hos hlen h)
        have HFno : Hid (chS F S P F.length = none → checkS F S P = false) := checkS_no4
        have HT2 : Hid (∀ k, k < F.length → ∃ b off, at' = some ⟨b, off, none⟩ ∧ b < w.heap.size ∧ ∀ j, j < F.length → w.cell? ⟨b, off + j, none⟩ = some (.int .i64 (P.getD j 0))) := fun k hk => by rw [← hlen]; exact HT.out.cells (by omega)
        have HC : Hid (∀ k, k < F.length → ∃ b off, af = some ⟨b, off, none⟩ ∧ b < w.heap.size ∧ ∀ i, i < F.length → w.cell? ⟨b, off + i * 2, none⟩ = some (.int .i64 (fh F i)) ∧ w.cell? ⟨b, off + i * 2 + 1, none⟩ = some (.int .i64 (fp F i))) := fun k hk => (HF.out.cells (by omega)).2
        have HOne : Hid (∀ k, k < F.length → (1 ≤ fh F k ∧ fh F k ≤ 1000) ∧ 0 ≤ fp F k ∧ fp F k ≤ 11) := fun k hk => by have := okF1_iff.1 (HOk.out.2 k hk); omega
        have hnn : ((P.length : Int) != (F.length : Int)) = false := by rw [hlen]; simp
        clear HT HOk
        go_enter Try.func24, Try.ntmps24
        go_wp2_with fail
        refine (svalidFloats_any _ F _ HF.out).mono ?_
        rintro e w1 ⟨n1, rfl, rfl⟩
        rw [hok]
        have HB := Lib.hid (below_drewN (Below.refl w.heap.size w) n1)
        have HS1 := Lib.hid (HS.out.drewN n1)
        generalize w.drewN n1 = w0 at *
        go_wp2_with fail
        refine (svalidSpace_any _ S _ HS1.out.sl).mono ?_
        rintro e w' ⟨rfl, rfl⟩
        rw [hos]
        have ho0 : (w0.alloc (.cells #[] 3)).ownsRow w0.heap.size 3 1 (.slice (some ⟨w0.heap.size, 0, none⟩) 0 0) 0 (([] : List Int).map (Value.int .i64)) :=
          World.ownsRow_lit w0 #[] 0 (Nat.le_refl _) (Nat.zero_le _) rfl
        have hb1 : Below w0.heap.size w0 (w0.alloc (.cells #[] 3)) := (Below.refl _ _).alloc (Nat.le_refl _) _
        have HU1 := HS1.out.below hb1
        have hsz1 := hb1.size
        go_wp2_with (at_builtin; go_must (refine wpList_append_ints rfl _ _ rfl w0.heap.size lo hi _ _ 0 [] S ho0 rfl rfl HU1 (by omega) hsz1 ?_))
        intro vl w2 g1 g2
        have HB2 : Hid (Below w.heap.size w w2) := Lib.hid (HB.out.trans ((hb1.grown g2 hsz1 (fun k hk => (ho0.lt k hk).1)).mono HB.out.size))
        have HL0 : Hid (OwnI w.heap.size w2.heap.size w2 vl S) := Lib.hid ((own_rowD (L := S) g1 rfl).mono HB.out.size (Nat.le_refl _) (Nat.le_refl _))
        clear g1 g2 ho0 hb1 HU1 hsz1 HB
        obtain ⟨al, cl, rfl⟩ : ∃ a c, vl = .slice a S.length c := by obtain ⟨a, c, e, _⟩ := HL0.out.sl; exact ⟨a, c, e⟩
        have hlc : S.length ≤ cl ∧ cl ≤ maxLen := by obtain ⟨_, _, e, h1, h2, _⟩ := HL0.out.sl; injection e with _ _ e; subst e; exact ⟨h1, h2⟩
        unfold maxLen at hlc
        have HP0 : Hid (chS F S P 0 = some S) := rfl
        have hw2 : w.heap.size ≤ w2.heap.size := HB2.out.size
        have HStp : Hid (∀ (k : Nat) (l : List Int), chS F S P k = some l → chS F S P (k + 1) = if chOne F S P l k = true then some (l.set (P.getD k 0).toNat (l.getD (P.getD k 0).toNat 0 - fh F k)) else none) := Lib.hid (fun k l h => chS_step h)
        have HChO : Hid (∀ (k : Nat) (l : List Int), chOne F S P l k = decide (fp F k ≤ P.getD k 0 ∧ prevP P k ≤ P.getD k 0 ∧ P.getD k 0 ≤ (S.length : Int) - 1 ∧ fh F k ≤ l.getD (P.getD k 0).toNat 0)) := Lib.hid (fun k l => rfl)
        have HPv : Hid (∀ k, prevP P k = if k = 0 then 0 else P.getD (k - 1) 0) := Lib.hid (fun k => rfl)
        clear hok hos HS HF HS1
        generalize hnF : F.length = n at *
        generalize hSm : S.length = m at *
        clear hlen hnF
        go_wp2_with fail
        go_loopw [8] (fun i wr => ∃ (k : Nat) (l : List Int), k ≤ n ∧ i = .int .i64 k ∧ l.length = m ∧ Hid (chS F S P k = some l) ∧ w2.heap.size ≤ wr.heap.size ∧ Hid (Below w.heap.size w wr) ∧ Hid (OwnI w.heap.size w2.heap.size wr (.slice al m cl) l)) (fun i _ => n - (intOf i).toNat)
        case atStart => exact ⟨0, S, by omega, rfl, hSm, HP0, Nat.le_refl _, HB2, HL0⟩
        case round =>
          obtain ⟨k, l, hk, rfl, hlm, HP, hbf, HB3, HL1⟩ := hrel
          by_cases hlt : k < n
          · obtain ⟨b, off, rfl, hb, hc⟩ := HC.out k hlt
            obtain ⟨bt, offt, rfl, hbt, hct⟩ := HT2.out k hlt
            have c0 := (HB3.out.cell (p := ⟨b, off + k * 2, none⟩) hb).trans (hc k hlt).1
            have c1 := (HB3.out.cell (p := ⟨b, off + k * 2 + 1, none⟩) hb).trans (hc k hlt).2
            have c2 := (HB3.out.cell (p := ⟨bt, offt + k, none⟩) hbt).trans (hct k hlt)
            have HC3 : Hid (0 < k → wr.cell? ⟨bt, offt + (k - 1), none⟩ = some (.int .i64 (P.getD (k - 1) 0))) := Lib.hid (fun h => (HB3.out.cell (p := ⟨bt, offt + (k - 1), none⟩) hbt).trans (hct (k - 1) (by omega)))
            have hxy := HOne.out k hlt
            have HSk := Lib.hid (HStp.out k l HP.out)
            have HCk := Lib.hid (HChO.out k l)
            have HPk := Lib.hid (HPv.out k)
            clear hc hct HStp HChO HPv
            generalize fh F k = x at *
            generalize fp F k = y at *
            generalize P.getD k 0 = p at *
            have hwm : IntKind.i64.wrap ((m : Int) - 1) = (m : Int) - 1 := IntWalk.i64_in _ (by omega)
            by_cases hin : y ≤ p ∧ p ≤ (m : Int) - 1
            · have hd : decide (y ≤ p ∧ p ≤ (m : Int) - 1) = true := by simpa using hin
              by_cases hpv : prevP P k ≤ p
              · obtain ⟨q, rfl⟩ := Int.eq_ofNat_of_zero_le (show 0 ≤ p by omega)
                have hqm : q < m := by omega
                rw [Int.toNat_natCast] at HSk HCk
                obtain ⟨g, rfl, hg0⟩ : ∃ g, al = some ⟨g, 0, none⟩ ∧ w.heap.size ≤ g ∧ g < w2.heap.size := by
                  rcases HL1.out.row.2 with ⟨e, h0⟩ | ⟨g, c, cur, e, h0, _⟩
                  · omega
                  · injection e with e1
                    exact ⟨g, e1, h0, HL1.out.top g (by rw [e1]; rfl)⟩
                have HRow : Hid (wr.ownsRow w.heap.size 3 1 (.slice (some ⟨g, 0, none⟩) m cl) m (l.map (Value.int .i64))) := Lib.hid (by have := HL1.out.row; rw [hlm] at this; exact this)
                have c4 : wr.cell? ⟨g, q, none⟩ = some (.int .i64 (l.getD q 0)) := by
                  have := HRow.out.cellAt q (by omega)
                  rw [getD_map_int l q (by omega)] at this
                  exact this
                have z4 : wr.frozen? ⟨g, q, none⟩ = false := HRow.out.frozenAt q
                obtain ⟨hz0, hz1⟩ : 0 ≤ l.getD q 0 ∧ l.getD q 0 ≤ 10000 := (HRm.out k hk l HP.out).2 q (by omega)
                have HST : Hid (∀ u : Int, Below w.heap.size w (wr.setCell ⟨g, q, none⟩ (.int .i64 u)).drew ∧ OwnI w.heap.size w2.heap.size (wr.setCell ⟨g, q, none⟩ (.int .i64 u)).drew (.slice (some ⟨g, 0, none⟩) m cl) (l.set q u) ∧ w2.heap.size ≤ (wr.setCell ⟨g, q, none⟩ (.int .i64 u)).drew.heap.size ∧ (wr.setCell ⟨g, q, none⟩ (.int .i64 u)).drew.cell? ⟨g, q, none⟩ = some (.int .i64 u)) := Lib.hid (fun u => by
                  have hs := HRow.out.stored q (.int .i64 u)
                  have hl : (l.set q u).length = m := by simpa using hlm
                  have hsz : w2.heap.size ≤ (wr.setCell ⟨g, q, none⟩ (.int .i64 u)).heap.size := Nat.le_trans HL1.out.fits hs.2.size
                  have hrow : (wr.setCell ⟨g, q, none⟩ (.int .i64 u)).ownsRow w.heap.size 3 1 (.slice (some ⟨g, 0, none⟩) m cl) m ((l.set q u).map (Value.int .i64)) := by
                    have := hs.1
                    rw [← List.map_set] at this
                    exact this
                  refine ⟨(HB3.out.setCell hg0.1 _).drew, ⟨by rw [hl]; exact hrow, fun j hj => (show g = j by simpa [Value.ownBlock] using hj) ▸ hg0.2, hsz⟩, hsz, ?_⟩
                  have := hrow.cellAt q (by omega)
                  rw [getD_map_int _ q (by rw [hl]; exact hqm), getD_set_eq _ _ _ (by omega)] at this
                  exact this)
                generalize l.getD q 0 = z at *
                obtain ⟨s1, s2, s4, s5⟩ := HST.out (z - x)
                have S1 := Lib.hid s1
                have S2 := Lib.hid s2
                have S5 := Lib.hid s5
                have HNy : Hid (z < x → checkS F S P = false) := Lib.hid (fun hlx => by
                  have h0 : chOne F S P l k = false := by rw [HCk.out]; simp; omega
                  have h1 : chS F S P (k + 1) = none := by rw [HSk.out, h0]; rfl
                  exact HFno.out (HNo.out (k + 1) h1 n (by omega)))
                have HNx : Hid (¬ z < x → chS F S P (k + 1) = some (l.set q (z - x))) := Lib.hid (fun hlx => by
                  have h0 : chOne F S P l k = true := by rw [HCk.out]; simp; omega
                  rw [HSk.out, h0]; rfl)
                have hl2 : (l.set q (z - x)).length = m := by simpa using hlm
                clear s1 s2 s5 HST HSk HCk hin HL0 HRow
                generalize l.set q (z - x) = l2 at *
                by_cases hk0 : k = 0
                · subst hk0
                  rw [Nat.zero_mul, Nat.add_zero] at c0 c1
                  rw [Nat.add_zero] at c2
                  clear HC3 hpv HPk
                  go_wp2_with (go_at_call 39; refine (inRange_any _ _ _ _).mono ?_; rintro e w' ⟨rfl, rfl⟩)
                  go_region
                  generalize (wr.setCell ⟨g, q, none⟩ (.int .i64 (z - x))).drew = W3 at *
                  have c5 := S5.out
                  clear c0 c1 c2 c4 z4
                  by_cases hlx : z < x
                  · have HF := Lib.hid (HNy.out hlx)
                    have hdl : decide (z - x < 0) = true := by simp; omega
                    clear HNx HNy hlx
                    go_wp2_with fail
                    go_ret
                    rw [HF.out]
                    exact ⟨rfl, S1.out⟩
                  · have HX := Lib.hid (HNx.out (by omega))
                    have hdl : decide (z - x < 0) = false := by simp; omega
                    clear HNx HNy hlx
                    go_wp2_with fail
                    go_roundw
                    case rel => exact ⟨0 + 1, l2, by omega, by go_num, hl2, HX, s4, S1, S2⟩
                    case measure => simp [intOf]; omega
                · have hd3 : decide (0 < k) = true := by simp; omega
                  have c3 := HC3.out (by omega)
                  rw [HPk.out, if_neg hk0] at hpv
                  have hkc : (k : Int) - 1 = ((k - 1 : Nat) : Int) := by omega
                  have hk2 : k - 1 < n := by omega
                  generalize P.getD (k - 1) 0 = pp at *
                  have hd4 : decide ((q : Int) < pp) = false := by simp; omega
                  clear HC3 hpv HPk
                  go_wp2_with (go_at_call 39; refine (inRange_any _ _ _ _).mono ?_; rintro e w' ⟨rfl, rfl⟩)
                  go_region
                  generalize (wr.setCell ⟨g, q, none⟩ (.int .i64 (z - x))).drew = W3 at *
                  have c5 := S5.out
                  clear c0 c1 c2 c3 c4 z4 hkc
                  by_cases hlx : z < x
                  · have HF := Lib.hid (HNy.out hlx)
                    have hdl : decide (z - x < 0) = true := by simp; omega
                    clear HNx HNy hlx
                    go_wp2_with fail
                    go_ret
                    rw [HF.out]
                    exact ⟨rfl, S1.out⟩
                  · have HX := Lib.hid (HNx.out (by omega))
                    have hdl : decide (z - x < 0) = false := by simp; omega
                    clear HNx HNy hlx
                    go_wp2_with fail
                    go_roundw
                    case rel => exact ⟨k + 1, l2, by omega, by go_num, hl2, HX, s4, S1, S2⟩
                    case measure => simp [intOf]; omega
              · have hk0 : ¬ k = 0 := by
                  intro e
                  rw [HPk.out, if_pos e] at hpv
                  omega
                have hd3 : decide (0 < k) = true := by simp; omega
                have c3 := HC3.out (by omega)
                have HNy : Hid (checkS F S P = false) := Lib.hid (by
                  have h0 : chOne F S P l k = false := by rw [HCk.out]; simp; omega
                  have h1 : chS F S P (k + 1) = none := by rw [HSk.out, h0]; rfl
                  exact HFno.out (HNo.out (k + 1) h1 n (by omega)))
                rw [HPk.out, if_neg hk0] at hpv
                have hkc : (k : Int) - 1 = ((k - 1 : Nat) : Int) := by omega
                have hk2 : k - 1 < n := by omega
                generalize P.getD (k - 1) 0 = pp at *
                have hd4 : decide (p < pp) = true := by simp; omega
                clear hin HSk HCk HC3 hpv HPk
                go_wp2_with (go_at_call 39; refine (inRange_any _ _ _ _).mono ?_; rintro e w' ⟨rfl, rfl⟩)
                go_ret
                rw [HNy.out]
                exact ⟨rfl, HB3.out⟩
            · have hd : decide (y ≤ p ∧ p ≤ (m : Int) - 1) = false := by simpa using hin
              have HNy : Hid (checkS F S P = false) := Lib.hid (by
                have h0 : chOne F S P l k = false := by rw [HCk.out]; simp; omega
                have h1 : chS F S P (k + 1) = none := by rw [HSk.out, h0]; rfl
                exact HFno.out (HNo.out (k + 1) h1 n (by omega)))
              clear hin HSk HCk
              go_wp2_with (go_at_call 39; refine (inRange_any _ _ _ _).mono ?_; rintro e w' ⟨rfl, rfl⟩)
              go_ret
              rw [HNy.out]
              exact ⟨rfl, HB3.out⟩
          · obtain rfl : k = n := by omega
            have HNy := Lib.hid (HFin.out l HP.out)
            go_wp2_with fail
            go_ret
            rw [HNy.out]
            exact ⟨rfl, HB3.out⟩
      · have HN := Lib.hid (checkS_no3 (S := S) hlen)
        have hnn : ((P.length : Int) != (F.length : Int)) = true := by simpa using fun h => hlen (by omega)
        go_enter Try.func24, Try.ntmps24
        go_wp2_with fail
        refine (svalidFloats_any _ F _ HF.out).mono ?_
        rintro e w1 ⟨n1, rfl, rfl⟩
        rw [hok]
        have HB := Lib.hid (below_drewN (Below.refl w.heap.size w) n1)
        have HS1 := Lib.hid (HS.out.drewN n1)
        generalize w.drewN n1 = w1 at *
        clear hlen
        go_wp2_with (go_at_call 30; refine (svalidSpace_any _ S _ HS1.out.sl).mono ?_; rintro e w' ⟨rfl, rfl⟩)
        go_ret
        rw [HN.out]
        exact ⟨rfl, HB.out⟩
end Go.Proofs.Ytfiogefigjnaiaa
