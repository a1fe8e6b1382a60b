/- Drawn orders: at most 60 numbers. -/
import Derived.Test.YtbecdndeddkibaaOrderLaws
import Derived.Test.YtbecdndeddkibaaAppendAll
namespace Go.Proofs.Ytbecdndeddkibaa
open Go.RowKit
set_option maxHeartbeats 1000000
set_option maxRecDepth 100000

theorem own_of' {B : Nat} {w : World} {v : Value} {n : Nat} {L : List Int} (h : w.ownsRow B 3 1 v n (L.map (Value.int .i64))) (hn : L.length = n) : OwnI B w.heap.size w v L :=
  ⟨by rw [hn]; exact h, fun j hj => (h.lt j hj).2, Nat.le_refl _⟩
theorem natI_len (O : List Nat) : (natI O).length = O.length := by simp [natI]

theorem addr_add (b off i : Nat) : (⟨b, off, none⟩ : Addr).add i = ⟨b, off + i, none⟩ := by
  unfold Addr.add
  by_cases h : i = 0
  · subst h; simp
  · simp [h]
theorem RowIn.below {k : IntKind} {w w' : World} {a : Option Addr} {len cap : Nat} {zs : List Int} (h : RowIn k w a len cap zs) (hb : Below w.heap.size w w') : RowIn k w' a len cap zs := by
  rcases h with h | ⟨x, rfl, h1, h2, h3, hc, hw⟩
  · exact .inl h
  · refine .inr ⟨x, rfl, h1, h2, h3, fun i hi => ?_, hw⟩
    obtain ⟨b, off, rfl, hc'⟩ := ints_at hc (by omega)
    have hl := lt_of_cell (hc' i hi)
    rw [addr_add]
    exact (hb.cell (p := ⟨b, off + i, none⟩) hl).trans (hc' i hi)
theorem drawInverseOrder_any (a : Option Addr) (len cap : Nat) (zs : List Int) (w : World) (h : RowIn .u8 w a len cap zs) :
    Calls Try.prog 17 #[.slice a len cap] w (DrewInts 60 w) := by
  have HR := Lib.hid h
  have HR0 : Hid (∀ w', Below w.heap.size w w' → RowIn .u8 w' a len cap zs) := Lib.hid (fun w' hb => h.below hb)
  clear h
  go_enter Try.func17, Try.ntmps17
  go_wp2_with fail
  refine (newReader_any a len cap zs _ HR.out).mono ?_
  rintro e w1 ⟨rfl, hR, hb⟩
  have hlt : w.heap.size < w1.heap.size := hR.lies
  have HO : Hid (OwnI (w.heap.size + 1) (w1.heap.size + 1) (w1.alloc (.cells #[] 3)) (.slice (some ⟨w1.heap.size, 0, none⟩) 0 0) []) :=
    Lib.hid ((own_of' (L := []) (World.ownsRow_lit w1 #[] 0 (Nat.le_refl _) (Nat.zero_le _) rfl) rfl).mono (by omega) (by simp) (by simp))
  have hb2 : Below w1.heap.size w1 (w1.alloc (.cells #[] 3)) := (Below.refl _ _).alloc (Nat.le_refl _) _
  have hR2 := hR.below hb2
  have HB2 : Hid (Below w.heap.size w (w1.alloc (.cells #[] 3))) := hb.trans (hb2.mono (Nat.le_of_lt hlt))
  clear hb hb2 hR
  go_wp2_with fail
  refine (drawOrderOf_any a len cap zs _ (HR0.out _ HB2.out)).mono ?_
  rintro e w2 ⟨vl, L, hL, rfl, ol, b2⟩
  have HO2 := Lib.hid (HO.out.below b2)
  have HB3 := Lib.hid (HB2.out.trans (b2.mono HB2.out.size))
  have HR2 := Lib.hid (hR2.below b2)
  clear hR2 HO HB2 b2
  go_wp2_with fail
  refine (sorderOf_any vl L _ ol.sl).mono ?_
  rintro e w3 ⟨vo, rfl, oo, b3⟩
  have HO3 := HO2.out.below b3
  have HB4 := HB3.out.trans (b3.mono HB3.out.size)
  have HR3 := HR2.out.below b3
  have hOl := ordS_len L
  have hl0 : (natI (ordS L)).length = (ordS L).length := natI_len _
  clear HO2 HB3 HR2 b3 ol
  generalize natI (ordS L) = M at *
  rw [← hl0] at hOl
  clear hl0 hL
  have hsz := HB4.size
  have hsz3 := HR3.lies
  have hfit := HO3.fits
  have HR3 := Lib.hid HR3
  have HB4 := Lib.hid HB4
  go_wp2_with (at_builtin; go_must (refine wpList_append_ints rfl _ _ rfl (w.heap.size + 1) _ _ _ _ 0 [] M HO3.row rfl rfl oo (by omega) (by omega) ?_))
  intro v' w4 hown hgrow
  obtain ⟨hR4, hb4⟩ := HR3.out.grown hgrow (fun j hj => by have := (HO3.row.lt j hj).1; omega)
  have HB5 := Lib.hid (HB4.out.trans hb4)
  have HR4 := Lib.hid hR4
  have HO4 := Lib.hid hown
  have hsl := (own_of' hown rfl).sl
  obtain ⟨av, cv, rfl, hcv, hcm, _⟩ := hsl
  have HH : Hid (HB4.out.size = HB4.out.size) := rfl
  clear hgrow hR4 hb4 oo HO3 HR3 HB4 hsz hsz3 hfit HH
  by_cases hn : M.length = 0
  · have HOwn : Hid (OwnI w.heap.size w4.heap.size w4 (.slice av M.length cv) M) := (own_of' HO4.out rfl).mono (by omega) (Nat.le_refl _) (Nat.le_refl _)
    obtain rfl : M = [] := List.length_eq_zero_iff.1 hn
    clear hn hown HO4
    go_wp2_with fail
    go_ret
    exact ⟨_, [], by simp, rfl, HOwn.out, HB5.out⟩
  · have hd : decide ((0 : Int) < (M.length : Int)) = true := by simp; omega
    clear hown
    have hlt4 := HR4.out.lies
    go_wp2_with fail
    refine (pick_pos w.heap.size 0 4 _ (by omega) (by omega) HR4.out).mono ?_
    rintro e w5 ⟨x, hx, rfl, hR5, hK5⟩
    have HO5 := Lib.hid (owns_keeps HO4.out hK5 (Nat.lt_succ_self _))
    have HB6 := Lib.hid (HB5.out.trans hK5.below)
    have HR5 := Lib.hid hR5
    clear hR5 hK5 HO4 HB5 HR4
    by_cases hx0 : x = 0
    · subst hx0
      go_wp2_with fail
      refine (pick_pos w.heap.size (0 + 1) (M.length : Int) _ (by omega) (by omega) HR5.out).mono ?_
      rintro e w6 ⟨p, hp, rfl, hR6, hK6⟩
      have HO6 := Lib.hid (owns_keeps HO5.out hK6 (Nat.lt_succ_self _))
      have HB7 := Lib.hid (HB6.out.trans hK6.below)
      have HR6 := Lib.hid hR6
      clear hR6 hK6 HO5 HB6 HR5
      go_wp2_with fail
      have hb := Below.alloc (Below.refl w6.heap.size w6) (Nat.le_refl _) (.cells (([0, 1, -1, (M.length : Int)] : List Int).map (Value.int .i64)).toArray 3)
      obtain ⟨zf, hzf⟩ : ∃ zf : Nat → Int, ∀ i, i < 4 → (w6.alloc (.cells (([0, 1, -1, (M.length : Int)] : List Int).map (Value.int .i64)).toArray 3)).cell? ⟨w6.heap.size, 0 + i, none⟩ = some (.int .i64 (zf i)) := ⟨fun i => ([0, 1, -1, (M.length : Int)] : List Int).getD i 0, fun i hi => new_row w6 _ _ i hi⟩
      refine (one_any w.heap.size (0 + 1 + 1) w6.heap.size 0 4 4 zf _ (by omega) (by omega) (by omega) (HR6.out.below hb) (by simp) (by have := HR6.out.lies; omega) hzf).mono ?_
      rintro e w7 ⟨i, hi, rfl, hR7, hK7⟩
      have hown := owns_keeps (HO6.out.alloc (.cells (([0, 1, -1, (M.length : Int)] : List Int).map (Value.int .i64)).toArray 3)) hK7 (Nat.lt_succ_self _)
      have HB8 : Hid (Below w.heap.size w w7) := (HB7.out.trans (hb.mono (Nat.le_of_lt HR6.out.lies))).trans hK7.below
      generalize zf i = z at *
      clear hb hK7 hR7 hzf HB7 HR6 HO6
      rcases hown.2 with ⟨hv, h0⟩ | ⟨g, cp, cur, hv, hg1, hg2, hg3, hg4, hg5, hg6⟩
      · exact absurd h0 hn
      · injection hv with hv1 hv2 hv3
        subst hv1 hv3
        have hpn : p < M.length := by omega
        have c0 : w7.cell? ⟨g, p, none⟩ = some (.int .i64 (M.getD p 0)) := by rw [hown.cellAt p (by omega)]; exact getD_map_int M p hpn
        have f0 : w7.frozen? ⟨g, p, none⟩ = false := hown.frozenAt p
        have HS := Lib.hid (hown.stored p (.int .i64 z)).1
        clear hg2 hg3 hg4 hg5 hg6 hown
        generalize M.getD p 0 = y at *
        go_wp2_with fail
        go_ret
        refine ⟨_, M.set p z, by simp; omega, rfl, ?_, HB8.out.setCell (by show w.heap.size ≤ g; omega) _⟩
        have h := HS.out
        rw [← List.map_set] at h
        have hl : (M.set p z).length = M.length := by simp
        exact (OwnI.mk (by rw [hl]; exact h) (fun j hj => (h.lt j hj).2) (Nat.le_refl _)).mono (by omega) (Nat.le_refl _) (Nat.le_refl _)
    · have hxe : ((x : Int) == 0) = false := by simpa using hx0
      have HOwn : Hid (OwnI w.heap.size w5.heap.size w5 (.slice av M.length cv) M) := (own_of' HO5.out rfl).mono (by omega) (Nat.le_refl _) (Nat.le_refl _)
      go_wp2_with fail
      go_ret
      exact ⟨_, M, by omega, rfl, HOwn.out, HB6.out⟩
end Go.Proofs.Ytbecdndeddkibaa
