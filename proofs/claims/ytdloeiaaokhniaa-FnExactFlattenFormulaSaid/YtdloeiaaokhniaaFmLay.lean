/- The layout of a formula, in the program. -/
import Derived.Test.YtdloeiaaokhniaaFmRow
import Derived.Test.YtdloeiaaokhniaaFmVal
namespace Go.Proofs.Ytdloeiaaokhniaa
open Go.RowKit
open FL
set_option maxHeartbeats 2000000
set_option maxRecDepth 100000
set_option linter.unusedVariables false

theorem bxInfo : (Try.prog.info? 29).map (fun i => (i.zero, i.size, i.bytes)) = some (some (.agg #[.int .i64 0, .int .i64 0, .int .i64 0]), 3, 24) := by kernel_rfl
def layV (p : Int × Int × Int) : Value := bxV p.1 p.2.1 p.2.2
theorem layL_at : ∀ (j : Nat) (g : FL) {k a b c : Int} {f r : FL}, FL.drop j g = cons k a b c f r → (layL g).getD j (0, 0, 0) = layFm k a b c f
  | 0, nil, _, _, _, _, _, _, h => by cases h
  | 0, cons k' a' b' c' f' r', k, a, b, c, f, r, h => by
    rw [FL.drop] at h; injection h with h1 h2 h3 h4 h5 h6; subst h1 h2 h3 h4 h5 h6; rfl
  | j + 1, nil, _, _, _, _, _, _, h => by cases h
  | j + 1, cons k' a' b' c' f' r', k, a, b, c, f, r, h => by
    rw [FL.drop] at h
    have := layL_at j r' h
    rw [layL, List.getD_cons_succ]; exact this
theorem okFm_box {k a b c : Int} {g : FL} {d : Nat} (h : okFm k a b c g d = true) (hd : d ≤ 6) : BxOk (layL g) ∨ k = 1 := by
  by_cases hk : k = 1
  · exact .inr hk
  · refine .inl ⟨?_, fun p hp => ?_⟩
    · unfold okFm at h
      rw [Bool.and_eq_true] at h
      rw [layL_len]
      rcases okNode_cases h.1 with ⟨e, _⟩ | ⟨_, _, _, _, h2⟩
      · exact absurd e hk
      · omega
    · unfold okFm at h
      rw [Bool.and_eq_true] at h
      have h1 := allV_in g (d - 1) h.2 p hp
      have h2 := bnd_top (d := d - 1) (by omega)
      exact ⟨⟨h1.1.1, by have := h1.1.2; omega⟩, ⟨h1.2.1.1, by have := h1.2.1.2; omega⟩, h1.2.2.1, by have := h1.2.2.2; omega⟩

def LyOk (g : FL) : Prop := ∀ (k a b c : Int) (v : Value) (w : World) (d : Nat), Kids AllS w v g → okFm k a b c g d = true → d ≤ 6 →
  Calls Try.prog 39 #[fmV k a b c v] w fun e w' => e = .returned (layV (layFm k a b c g)) ∧ Below w.heap.size w w'

theorem ly_sym (g : FL) (a b c : Int) (v : Value) (w : World) (h : Kids AllS w v g) :
    Calls Try.prog 39 #[fmV 1 a b c v] w fun e w' => e = .returned (layV (layFm 1 a b c g)) ∧ Below w.heap.size w w' := by
  obtain ⟨ad, cap, rfl, -⟩ := h.cells
  have HA : Hid (Below w.heap.size w ((w.alloc (.cells #[.int .i64 1, .int .i64 a, .int .i64 b, .int .i64 c, .slice ad g.len cap] 32)).alloc (.cells #[.int .i64 a, .int .i64 b, .int .i64 c] 29))) := Lib.hid (((Below.refl _ _).alloc (Nat.le_refl _) _).alloc (by simp) _)
  have T1 := Lib.hid (Three.new 29 (w.alloc (.cells #[.int .i64 1, .int .i64 a, .int .i64 b, .int .i64 c, .slice ad g.len cap] 32)) (.int .i64 a) (.int .i64 b) (.int .i64 c))
  simp only [alloc_sz] at T1
  clear h
  unfold fmV
  go_enter Try.func39, Try.ntmps39
  go_wp2_with fail
  obtain ⟨g0, g1, g2⟩ := T1.out.cells
  exact bodyPost_ret (v := bxV a b c) (by simp [results, Try.results39, go_sem, bxV, g0, g1, g2]) rfl ⟨rfl, HA.out⟩

theorem bl_box (L : List Blk) (x y : Int × Int × Int) : bl [x, y] 0 = x.1 ∧ bb [x, y] 0 = x.2.1 ∧ br [x, y] 0 = x.2.2 ∧ bl [x, y] 1 = y.1 ∧ bb [x, y] 1 = y.2.1 ∧ br [x, y] 1 = y.2.2 := ⟨rfl, rfl, rfl, rfl, rfl, rfl⟩

theorem ly_row (g : FL) (IH : ∀ g' : FL, g'.sz < g.sz → LyOk g') (k a b c : Int) (v : Value) (w : World) (d : Nat) (h : Kids AllS w v g) (hok : okFm k a b c g d = true) (hd : d ≤ 6) (hk1 : ¬ k = 1) :
    Calls Try.prog 39 #[fmV k a b c v] w fun e w' => e = .returned (layV (layFm k a b c g)) ∧ Below w.heap.size w w' := by
  obtain ⟨ad, cap, rfl, hlc, hm, hcell⟩ := h.cells
  have HCe := Lib.hid hcell
  have HI := Lib.hid IH
  have hBx : BxOk (layL g) := (okFm_box hok hd).resolve_right hk1
  have hk : (k = 2 ∧ g.len ≤ 6) ∨ (k = 3 ∧ g.len = 2) ∨ (k = 4 ∧ g.len = 2) ∨ (k = 5 ∧ g.len = 2) ∨ (k = 6 ∧ g.len = 1) := by
    unfold okFm at hok
    rw [Bool.and_eq_true] at hok
    rcases okNode_cases hok.1 with ⟨e, _⟩ | ⟨_, _, _, _, h2⟩
    · exact absurd e hk1
    · exact h2
  have HKid : Hid (∀ j k' x1 x2 x3 f r, FL.drop j g = cons k' x1 x2 x3 f r → okFm k' x1 x2 x3 f (d - 1) = true) := Lib.hid (fun j k' x1 x2 x3 f r e => by
    unfold okFm at hok
    rw [Bool.and_eq_true] at hok
    exact allV_kid hok.2 e)
  have e1 : (k == 1) = false := by rw [beq_eq_false_iff_ne]; exact hk1
  have hl6 := hBx.1
  rw [layL_len] at hl6
  have HLy : Hid (∀ j k' x1 x2 x3 f r, FL.drop j g = cons k' x1 x2 x3 f r → (layFm k' x1 x2 x3 f).1 = bl (layL g) j ∧ (layFm k' x1 x2 x3 f).2.1 = bb (layL g) j ∧ (layFm k' x1 x2 x3 f).2.2 = br (layL g) j) := Lib.hid (fun j k' x1 x2 x3 f r e => by
    unfold bl bb br; rw [layL_at j g e]; exact ⟨rfl, rfl, rfl⟩)
  have HCk := Lib.hid (fun j (hj : j < g.len) => blkC_at (layL g) j (by rw [layL_len]; exact hj))
  have HCl : Hid ((blkC (layL g)).length = g.len * 3) := Lib.hid (by rw [blkC_len, layL_len])
  have HRes : Hid (layFm k a b c g = layN k a b c (layL g)) := Lib.hid rfl
  have hLl : (layL g).length = g.len := layL_len g
  have HBx := Lib.hid hBx
  have HAt := Lib.hid (fun j (h : j < g.len) => FL.drop_at j g h)
  clear h hcell IH hBx hok
  unfold maxLen at hm
  obtain ⟨W, hW⟩ : ∃ W, (w.alloc (.cells #[.int .i64 k, .int .i64 a, .int .i64 b, .int .i64 c, .slice ad g.len cap] 32)).alloc (.cells #[.int .i64 0, .int .i64 0, .int .i64 0] 29) = W := ⟨_, rfl⟩
  have HA : Hid (Below w.heap.size w W) := Lib.hid (hW ▸ ((Below.refl _ _).alloc (Nat.le_refl _) _).alloc (by simp) _)
  have F0 : Hid (Five 32 W w.heap.size (.int .i64 k) (.int .i64 a) (.int .i64 b) (.int .i64 c) (.slice ad g.len cap)) := Lib.hid (hW ▸ (Five.new 32 w (.int .i64 k) (.int .i64 a) (.int .i64 b) (.int .i64 c) (.slice ad g.len cap)).alloc _)
  have T0 : Hid (Three 29 W (w.heap.size + 1) (.int .i64 0) (.int .i64 0) (.int .i64 0)) := Lib.hid (by
    have := Three.new 29 (w.alloc (.cells #[.int .i64 k, .int .i64 a, .int .i64 b, .int .i64 c, .slice ad g.len cap] 32)) (.int .i64 0) (.int .i64 0) (.int .i64 0)
    simp only [alloc_sz] at this
    exact hW ▸ this)
  obtain ⟨i0, hi, hz0, hz1, hz2⟩ := info_parts bxInfo
  obtain ⟨w1, hmk, hown, hgrow⟩ := run_make_full (P := Try.prog) W W.heap.size 43 29 i0 (.agg #[.int .i64 0, .int .i64 0, .int .i64 0]) 3 Try.underlying43 hi hz0 hz1 .i64 .i64 g.len (by rw [hz2]; omega) (by unfold maxLen; omega) (Nat.le_refl _)
  have hb1 : Below W.heap.size W w1 := (Below.refl _ _).grown hgrow (Nat.le_refl _) (fun k hk => by simp at hk)
  have hWs : W.heap.size = w.heap.size + 1 + 1 := by rw [← hW]; simp
  have HB1 := Lib.hid (HA.out.trans (hb1.mono HA.out.size))
  have F1 := Lib.hid (F0.out.below hb1)
  have T1 := Lib.hid (T0.out.below hb1)
  rw [hWs] at hown
  have hs1 : w.heap.size + 1 + 1 < w1.heap.size := (hown.lt _ rfl).2
  have HO : Hid (∃ C : List Value, C.length = g.len * 3 ∧ (∀ j, j < 0 * 3 → C[j]? = (blkC (layL g))[j]?) ∧ w1.ownsRow (w.heap.size + 1 + 1) 29 3 (.slice (some ⟨w.heap.size + 1 + 1, 0, none⟩) g.len g.len) g.len C) := ⟨_, by simp [size_madeCells], fun j hj => by omega, hown⟩
  rw [hWs] at hmk
  clear hi hz0 hz1 hz2 hgrow hown hb1 F0 HA T0
  subst hW
  clear hWs
  unfold fmV
  generalize hg : g.len = n at *
  have HL := Lib.hid hg
  clear hg
  obtain ⟨_, _, _, _, v4⟩ := F1.out.cells
  go_enter Try.func39, Try.ntmps39
  go_wp2_with fail
  go_loopw [4, 5, 22] (fun _ _ i wr => ∃ j : Nat, j ≤ n ∧ i = .int .i64 j ∧ Hid (Below w.heap.size w wr) ∧ w.heap.size + 1 + 1 < wr.heap.size ∧ Hid (Five 32 wr w.heap.size (.int .i64 k) (.int .i64 a) (.int .i64 b) (.int .i64 c) (.slice ad n cap)) ∧ Hid (Three 29 wr (w.heap.size + 1) (.int .i64 0) (.int .i64 0) (.int .i64 0)) ∧ Hid (∃ C : List Value, C.length = n * 3 ∧ (∀ i, i < j * 3 → C[i]? = (blkC (layL g))[i]?) ∧ wr.ownsRow (w.heap.size + 1 + 1) 29 3 (.slice (some ⟨w.heap.size + 1 + 1, 0, none⟩) n n) n C)) (fun _ _ i _ => n - (intOf i).toNat)
  case atStart => exact ⟨0, by omega, rfl, HB1, hs1, F1, T1, HO⟩
  case round =>
    clear HO HB1 F1 T1 hs1
    obtain ⟨j, hj, rfl, HB, hs, HF, HT, HM⟩ := hrel
    by_cases hlt : j < n
    · obtain ⟨b', off, rfl, _, hb, hat⟩ := HCe.out (by omega)
      obtain ⟨k', x1, x2, x3, f, r, hd1, hd2⟩ := HAt.out j hlt
      obtain ⟨u, c0, c1, c2, c3, c4, hkk⟩ := hat j k' x1 x2 x3 f r hd1
      rw [← (bcell HB.out).1 _ _ hb] at c0 c1 c2 c3 c4
      have HS := Lib.hid (fun (w' : World) (hb' : Below w.heap.size w w') => HI.out f (sz_kid hd1) k' x1 x2 x3 u w' (d - 1) (hkk.below hb') (HKid.out j k' x1 x2 x3 f r hd1) (by omega))
      have HLj := Lib.hid (HLy.out j k' x1 x2 x3 f r hd1)
      have hCk := Lib.hid (HCk.out j hlt)
      obtain ⟨ad', cap', rfl, _⟩ := hkk.cells
      have HB7 := Lib.hid (HB.out.alloc HB.out.size (.cells #[.int .i64 k', .int .i64 x1, .int .i64 x2, .int .i64 x3, .slice ad' f.len cap'] 32))
      have HF7 := Lib.hid (HF.out.alloc (.cells #[.int .i64 k', .int .i64 x1, .int .i64 x2, .int .i64 x3, .slice ad' f.len cap'] 32))
      have HT7 := Lib.hid (HT.out.alloc (.cells #[.int .i64 k', .int .i64 x1, .int .i64 x2, .int .i64 x3, .slice ad' f.len cap'] 32))
      have b7 : Below wr.heap.size wr (wr.alloc (.cells #[.int .i64 k', .int .i64 x1, .int .i64 x2, .int .i64 x3, .slice ad' f.len cap'] 32)) := (Below.refl _ _).alloc (Nat.le_refl _) _
      clear hat hkk hd1 hd2
      unfold fmV at HS
      go_wp2_with fail
      refine (HS.out _ HB7.out).mono ?_
      rintro e w3 ⟨he, b3⟩
      have b37 := b7.trans (b3.mono b7.size)
      have HB3 := Lib.hid (HB.out.trans (b37.mono HB.out.size))
      have HF3 := Lib.hid (HF.out.below b37)
      have HT3 := Lib.hid (HT.out.below b37)
      have hs3 : w.heap.size + 1 + 1 < w3.heap.size := Nat.lt_of_lt_of_le hs b37.size
      obtain ⟨z0, z1, z2⟩ := HLj.out
      unfold layV at he
      rw [z0, z1, z2] at he
      subst he
      obtain ⟨k0, k1, k2⟩ := hCk.out
      generalize bl (layL g) j = p0 at *
      generalize bb (layL g) j = p1 at *
      generalize br (layL g) j = p2 at *
      obtain ⟨C, hCl, hCe, hCo⟩ := HM.out
      have hCo3 : w3.ownsRow (w.heap.size + 1 + 1) 29 3 (.slice (some ⟨w.heap.size + 1 + 1, 0, none⟩) n n) n C := ((ownC_of hCo).below b37).row
      obtain ⟨o0, ho0⟩ : ∃ u, C[j * 3]? = some u := ⟨_, List.getElem?_eq_getElem (by omega)⟩
      obtain ⟨o1, ho1⟩ : ∃ u, C[j * 3 + 1]? = some u := ⟨_, List.getElem?_eq_getElem (by omega)⟩
      obtain ⟨o2, ho2⟩ : ∃ u, C[j * 3 + 2]? = some u := ⟨_, List.getElem?_eq_getElem (by omega)⟩
      have d0 : w3.cell? ⟨w.heap.size + 1 + 1, j * 3, none⟩ = some o0 := (hCo3.cellAt (j * 3) (by omega)).trans ho0
      have d1 : w3.cell? ⟨w.heap.size + 1 + 1, j * 3 + 1, none⟩ = some o1 := (hCo3.cellAt (j * 3 + 1) (by omega)).trans ho1
      have d2 : w3.cell? ⟨w.heap.size + 1 + 1, j * 3 + 2, none⟩ = some o2 := (hCo3.cellAt (j * 3 + 2) (by omega)).trans ho2
      have f0 : w3.frozen? ⟨w.heap.size + 1 + 1, j * 3, none⟩ = false := hCo3.frozenAt _
      have f1 : w3.frozen? ⟨w.heap.size + 1 + 1, j * 3 + 1, none⟩ = false := hCo3.frozenAt _
      have f2 : w3.frozen? ⟨w.heap.size + 1 + 1, j * 3 + 2, none⟩ = false := hCo3.frozenAt _
      have HS4 : Hid (∃ C : List Value, C.length = n * 3 ∧ (∀ i, i < (j + 1) * 3 → C[i]? = (blkC (layL g))[i]?) ∧ (((w3.setCell ⟨w.heap.size + 1 + 1, j * 3, none⟩ (.int .i64 p0)).setCell ⟨w.heap.size + 1 + 1, j * 3 + 1, none⟩ (.int .i64 p1)).setCell ⟨w.heap.size + 1 + 1, j * 3 + 2, none⟩ (.int .i64 p2)).ownsRow (w.heap.size + 1 + 1) 29 3 (.slice (some ⟨w.heap.size + 1 + 1, 0, none⟩) n n) n C) := Lib.hid (by
        refine ⟨((C.set (j * 3) (.int .i64 p0)).set (j * 3 + 1) (.int .i64 p1)).set (j * 3 + 2) (.int .i64 p2), by simpa using hCl, fun i hi => ?_, ?_⟩
        · by_cases e2 : i = j * 3 + 2
          · subst e2
            rw [List.getElem?_set_self (by simp; omega)]; exact k2.symm
          · rw [List.getElem?_set_ne (by omega)]
            by_cases e1 : i = j * 3 + 1
            · subst e1
              rw [List.getElem?_set_self (by simp; omega)]; exact k1.symm
            · rw [List.getElem?_set_ne (by omega)]
              by_cases e0 : i = j * 3
              · subst e0
                rw [List.getElem?_set_self (by omega)]; exact k0.symm
              · rw [List.getElem?_set_ne (by omega)]
                exact hCe i (by omega)
        · exact (((hCo3.stored (j * 3) (.int .i64 p0)).1.stored (j * 3 + 1) (.int .i64 p1)).1.stored (j * 3 + 2) (.int .i64 p2)).1)
      have HB4 := Lib.hid (((HB3.out.setCell (p := ⟨w.heap.size + 1 + 1, j * 3, none⟩) (by simp only; omega) (.int .i64 p0)).setCell (p := ⟨w.heap.size + 1 + 1, j * 3 + 1, none⟩) (by simp only; omega) (.int .i64 p1)).setCell (p := ⟨w.heap.size + 1 + 1, j * 3 + 2, none⟩) (by simp only; omega) (.int .i64 p2))
      have HF4 := Lib.hid (((HF3.out.aside (c := w.heap.size + 1 + 1) (o := j * 3) (by omega) (.int .i64 p0)).aside (c := w.heap.size + 1 + 1) (o := j * 3 + 1) (by omega) (.int .i64 p1)).aside (c := w.heap.size + 1 + 1) (o := j * 3 + 2) (by omega) (.int .i64 p2))
      have HT4 := Lib.hid (((HT3.out.aside (c := w.heap.size + 1 + 1) (o := j * 3) (by omega) (.int .i64 p0)).aside (c := w.heap.size + 1 + 1) (o := j * 3 + 1) (by omega) (.int .i64 p1)).aside (c := w.heap.size + 1 + 1) (o := j * 3 + 2) (by omega) (.int .i64 p2))
      clear HB HF HT b7 b3 b37 HB7 HF7 HT7 HB3 HF3 HT3 ho0 ho1 ho2 HM hCl hCe hCo hCo3 c0 c1 c2 c3 c4 HS z0 z1 z2 k0 k1 k2 hCk HLj
      unfold bxV
      go_wp2_with fail
      go_roundw
      case rel => exact ⟨j + 1, by omega, by first | rfl | go_num, HB4, by simpa [World.setCell] using hs3, HF4, HT4, HS4⟩
      case measure => simp [intOf]; omega
    · obtain rfl : j = n := by omega
      have HSl : Hid (SlB wr (.slice (some ⟨w.heap.size + 1 + 1, 0, none⟩) j j) (layL g)) := Lib.hid (by
        obtain ⟨C, hCl, hCe, hCo⟩ := HM.out
        have e : C = blkC (layL g) := by
          apply List.ext_getElem?
          intro i
          by_cases hi : i < j * 3
          · exact hCe i hi
          · rw [List.getElem?_eq_none (by omega), List.getElem?_eq_none (by rw [HCl.out]; omega)]
        subst e
        unfold SlB
        rw [hLl]
        exact OwnC.sl (ownC_of hCo))
      clear HM
      obtain ⟨s0, s1, s2, s3, s4⟩ := HF.out.cells
      obtain ⟨t0, t1, t2⟩ := HT.out.cells
      obtain ⟨y0, y1, y2⟩ := HT.out.free
      by_cases hk2 : k = 2
      · subst hk2
        rw [layN_row] at HRes
        go_wp2_with fail
        refine (besides_any _ (layL g) wr HSl.out HBx.out).mono ?_
        rintro e w5 ⟨rfl, b5⟩
        have HB5 := Lib.hid (HB.out.trans (b5.mono HB.out.size))
        have HT5 := Lib.hid (HT.out.below b5)
        clear b5 HB HT HF s0 s1 s2 s3 s4 t0 t1 t2 y0 y1 y2
        generalize bxW (layL g) = p0 at *
        generalize bxH (layL g) = p1 at *
        generalize bxD (layL g) = p2 at *
        obtain ⟨t0, t1, t2⟩ := HT5.out.cells
        obtain ⟨y0, y1, y2⟩ := HT5.out.free
        have HU := Lib.hid (((HT5.out.set0 (.int .i64 p0)).set1 (.int .i64 p1)).set2 (.int .i64 p2)).cells
        have HB6 := Lib.hid (((HB5.out.setCell (p := ⟨w.heap.size + 1, 0, none⟩) (by simp only; omega) (.int .i64 p0)).setCell (p := ⟨w.heap.size + 1, 1, none⟩) (by simp only; omega) (.int .i64 p1)).setCell (p := ⟨w.heap.size + 1, 2, none⟩) (by simp only; omega) (.int .i64 p2))
        unfold bxV
        go_wp2_with fail
        obtain ⟨g0, g1, g2⟩ := HU.out
        exact bodyPost_ret (v := bxV p0 p1 p2) (by simp [results, Try.results39, go_sem, bxV, g0, g1, g2]) rfl ⟨by rw [HRes.out]; rfl, HB6.out⟩
      · have e2 : (k == 2) = false := by rw [beq_eq_false_iff_ne]; exact hk2
        have hj1 : 1 ≤ j := by omega
        obtain ⟨_, b', off, e, hb, hc⟩ := HSl.out.cells (n := j) (by omega)
        injection e with e
        injection e with e3 e4
        subst e3 e4
        obtain ⟨c0, c1, c2⟩ := hc 0 (by omega)
        simp only [Nat.zero_mul, Nat.zero_add] at c0 c1 c2
        obtain ⟨q0, q1, q2⟩ := HBx.out.at 0 (by omega)
        have hs2 : w.heap.size + 1 < wr.heap.size := by omega
        have hs0 : w.heap.size < wr.heap.size := by omega
        by_cases hk6 : k = 6
        · subst hk6
          obtain ⟨x, hx⟩ := len_one (hLl.trans (show j = 1 by omega))
          have hx0 : decide ((0 : Int) < (j : Int)) = true := decide_eq_true (by omega)
          rw [hx] at c0 c1 c2 q0 q1 q2 HRes
          rw [layN_root] at HRes
          change wr.cell? _ = some (.int .i64 x.1) at c0
          change wr.cell? _ = some (.int .i64 x.2.1) at c1
          change wr.cell? _ = some (.int .i64 x.2.2) at c2
          change 0 ≤ x.1 ∧ x.1 ≤ 4665600 at q0
          change 0 ≤ x.2.1 ∧ x.2.1 ≤ 4665600 at q1
          change 0 ≤ x.2.2 ∧ x.2.2 ≤ 4665600 at q2
          obtain ⟨p0, p1, p2⟩ := x
          simp only at c0 c1 c2 q0 q1 q2 HRes
          have i0 : IntKind.i64.wrap (p0 + 3) = p0 + 3 := IntWalk.i64_in _ (by omega)
          have i1 : IntKind.i64.wrap (p1 + 1) = p1 + 1 := IntWalk.i64_in _ (by omega)
          have i2 : IntKind.i64.wrap (p1 + 1 + 1) = p1 + 1 + 1 := IntWalk.i64_in _ (by omega)
          rw [show p1 + 2 = p1 + 1 + 1 by omega] at HRes
          clear hc hx HSl hk hLl
          have HU := Lib.hid ((((HT.out.set0 (.int .i64 (p0 + 3))).set1 (.int .i64 (p1 + 1 + 1))).set2 (.int .i64 (p2))).alloc (.cells #[.int .i64 p0, .int .i64 p1, .int .i64 p2] 29)).cells
          have HB6 := Lib.hid ((((HB.out.setCell (p := ⟨w.heap.size + 1, 0, none⟩) (by simp only; omega) (.int .i64 (p0 + 3))).setCell (p := ⟨w.heap.size + 1, 1, none⟩) (by simp only; omega) (.int .i64 (p1 + 1 + 1))).setCell (p := ⟨w.heap.size + 1, 2, none⟩) (by simp only; omega) (.int .i64 (p2))).alloc (Nat.le_trans HB.out.size (by simp [World.setCell])) (.cells #[.int .i64 p0, .int .i64 p1, .int .i64 p2] 29))
          go_wp2_with fail
          obtain ⟨g0, g1, g2⟩ := HU.out
          exact bodyPost_ret (v := bxV (p0 + 3) (p1 + 1 + 1) (p2)) (by simp [results, Try.results39, go_sem, bxV, g0, g1, g2]) rfl ⟨by rw [HRes.out]; rfl, HB6.out⟩
        · have e6 : (k == 6) = false := by rw [beq_eq_false_iff_ne]; exact hk6
          have hj2 : 2 ≤ j := by omega
          obtain ⟨d0, d1, d2⟩ := hc 1 (by omega)
          simp only [Nat.one_mul, Nat.zero_add] at d0 d1 d2
          obtain ⟨q3, q4, q5⟩ := HBx.out.at 1 (by omega)
          obtain ⟨x, y, hx⟩ := len_two (hLl.trans (show j = 2 by omega))
          rw [hx] at c0 c1 c2 q0 q1 q2 HRes d0 d1 d2 q3 q4 q5
          change wr.cell? _ = some (.int .i64 x.1) at c0
          change wr.cell? _ = some (.int .i64 x.2.1) at c1
          change wr.cell? _ = some (.int .i64 x.2.2) at c2
          change 0 ≤ x.1 ∧ x.1 ≤ 4665600 at q0
          change 0 ≤ x.2.1 ∧ x.2.1 ≤ 4665600 at q1
          change 0 ≤ x.2.2 ∧ x.2.2 ≤ 4665600 at q2
          change wr.cell? _ = some (.int .i64 y.1) at d0
          change wr.cell? _ = some (.int .i64 y.2.1) at d1
          change wr.cell? _ = some (.int .i64 y.2.2) at d2
          change 0 ≤ y.1 ∧ y.1 ≤ 4665600 at q3
          change 0 ≤ y.2.1 ∧ y.2.1 ≤ 4665600 at q4
          change 0 ≤ y.2.2 ∧ y.2.2 ≤ 4665600 at q5
          obtain ⟨p0, p1, p2⟩ := x
          obtain ⟨r0, r1, r2⟩ := y
          simp only at c0 c1 c2 q0 q1 q2 d0 d1 d2 q3 q4 q5
          have hx0 : decide ((0 : Int) < (j : Int)) = true := decide_eq_true (by omega)
          have hx1 : decide ((1 : Int) < (j : Int)) = true := decide_eq_true (by omega)
          by_cases hk4 : k = 4
          · subst hk4
            obtain ⟨u, hu⟩ : ∃ u, (if 3 < p1 - 3 + r2 then p1 - 3 + r2 else 3) = u := ⟨_, rfl⟩
            have hub : 3 ≤ u ∧ u ≤ 9331200 := by rw [← hu]; split <;> omega
            obtain ⟨m1, hm1⟩ : ∃ m, (if p1 < u + r1 then u + r1 else p1) = m := ⟨_, rfl⟩
            obtain ⟨m2, hm2⟩ : ∃ m, (if p2 < r2 - u then r2 - u else p2) = m := ⟨_, rfl⟩
            rw [layN_above] at HRes
            simp only at HRes
            rw [max_if 3, hu, max_if, hm1, max_if, hm2] at HRes
            have i0 : IntKind.i64.wrap (p1 - 3) = p1 - 3 := IntWalk.i64_in _ (by omega)
            have i1 : IntKind.i64.wrap (p1 - 3 + r2) = p1 - 3 + r2 := IntWalk.i64_in _ (by omega)
            have i2 : IntKind.i64.wrap (p0 + r0) = p0 + r0 := IntWalk.i64_in _ (by omega)
            have i3 : IntKind.i64.wrap (u + r1) = u + r1 := IntWalk.i64_in _ (by omega)
            have i4 : IntKind.i64.wrap (r2 - u) = r2 - u := IntWalk.i64_in _ (by omega)
            clear hc hx HSl hk hLl
            have HU := Lib.hid (((((HT.out.set0 (.int .i64 (p0 + r0))).set1 (.int .i64 (m1))).set2 (.int .i64 (m2))).alloc (.cells #[.int .i64 p0, .int .i64 p1, .int .i64 p2] 29)).alloc (.cells #[.int .i64 r0, .int .i64 r1, .int .i64 r2] 29)).cells
            have HB6 := Lib.hid (((((HB.out.setCell (p := ⟨w.heap.size + 1, 0, none⟩) (by simp only; omega) (.int .i64 (p0 + r0))).setCell (p := ⟨w.heap.size + 1, 1, none⟩) (by simp only; omega) (.int .i64 (m1))).setCell (p := ⟨w.heap.size + 1, 2, none⟩) (by simp only; omega) (.int .i64 (m2))).alloc (Nat.le_trans HB.out.size (by simp [World.setCell])) (.cells #[.int .i64 p0, .int .i64 p1, .int .i64 p2] 29)).alloc (Nat.le_trans HB.out.size (by simp [World.setCell])) (.cells #[.int .i64 r0, .int .i64 r1, .int .i64 r2] 29))
            go_wp2_with fail
            obtain ⟨g0, g1, g2⟩ := HU.out
            exact bodyPost_ret (v := bxV (p0 + r0) (m1) (m2)) (by simp [results, Try.results39, go_sem, bxV, g0, g1, g2]) rfl ⟨by rw [HRes.out]; rfl, HB6.out⟩
          · have e4 : (k == 4) = false := by rw [beq_eq_false_iff_ne]; exact hk4
            by_cases hk5 : k = 5
            · subst hk5
              obtain ⟨u, hu⟩ : ∃ u, (if 3 < p2 + r1 - 3 then p2 + r1 - 3 else 3) = u := ⟨_, rfl⟩
              have hub : 3 ≤ u ∧ u ≤ 9331200 := by rw [← hu]; split <;> omega
              obtain ⟨m1, hm1⟩ : ∃ m, (if p1 < r1 - u then r1 - u else p1) = m := ⟨_, rfl⟩
              obtain ⟨m2, hm2⟩ : ∃ m, (if p2 < u + r2 then u + r2 else p2) = m := ⟨_, rfl⟩
              rw [layN_below] at HRes
              simp only at HRes
              rw [max_if 3, hu, max_if, hm1, max_if, hm2] at HRes
              have i0 : IntKind.i64.wrap (p2 + r1) = p2 + r1 := IntWalk.i64_in _ (by omega)
              have i1 : IntKind.i64.wrap (p2 + r1 - 3) = p2 + r1 - 3 := IntWalk.i64_in _ (by omega)
              have i2 : IntKind.i64.wrap (p0 + r0) = p0 + r0 := IntWalk.i64_in _ (by omega)
              have i3 : IntKind.i64.wrap (u + r2) = u + r2 := IntWalk.i64_in _ (by omega)
              have i4 : IntKind.i64.wrap (r1 - u) = r1 - u := IntWalk.i64_in _ (by omega)
              clear hc hx HSl hk hLl
              have HU := Lib.hid (((((HT.out.set0 (.int .i64 (p0 + r0))).set1 (.int .i64 (m1))).set2 (.int .i64 (m2))).alloc (.cells #[.int .i64 p0, .int .i64 p1, .int .i64 p2] 29)).alloc (.cells #[.int .i64 r0, .int .i64 r1, .int .i64 r2] 29)).cells
              have HB6 := Lib.hid (((((HB.out.setCell (p := ⟨w.heap.size + 1, 0, none⟩) (by simp only; omega) (.int .i64 (p0 + r0))).setCell (p := ⟨w.heap.size + 1, 1, none⟩) (by simp only; omega) (.int .i64 (m1))).setCell (p := ⟨w.heap.size + 1, 2, none⟩) (by simp only; omega) (.int .i64 (m2))).alloc (Nat.le_trans HB.out.size (by simp [World.setCell])) (.cells #[.int .i64 p0, .int .i64 p1, .int .i64 p2] 29)).alloc (Nat.le_trans HB.out.size (by simp [World.setCell])) (.cells #[.int .i64 r0, .int .i64 r1, .int .i64 r2] 29))
              go_wp2_with fail
              obtain ⟨g0, g1, g2⟩ := HU.out
              exact bodyPost_ret (v := bxV (p0 + r0) (m1) (m2)) (by simp [results, Try.results39, go_sem, bxV, g0, g1, g2]) rfl ⟨by rw [HRes.out]; rfl, HB6.out⟩
            · have e5 : (k == 5) = false := by rw [beq_eq_false_iff_ne]; exact hk5
              have hk3 : k = 3 := by omega
              subst hk3
              obtain ⟨m0, hm0⟩ : ∃ m, (if p0 < r0 then r0 else p0) = m := ⟨_, rfl⟩
              rw [layN_frac] at HRes
              simp only at HRes
              rw [max_if p0, hm0, max_if 0] at HRes
              have i0 : IntKind.i64.wrap (5 + p1) = 5 + p1 := IntWalk.i64_in _ (by omega)
              have i1 : IntKind.i64.wrap (5 + p1 + p2) = 5 + p1 + p2 := IntWalk.i64_in _ (by omega)
              have i2 : IntKind.i64.wrap (1 + r1) = 1 + r1 := IntWalk.i64_in _ (by omega)
              have i3 : IntKind.i64.wrap (1 + r1 + r2) = 1 + r1 + r2 := IntWalk.i64_in _ (by omega)
              have i4 : IntKind.i64.wrap (1 + r1 + r2 - 3) = 1 + r1 + r2 - 3 := IntWalk.i64_in _ (by omega)
              by_cases hpos : 3 < 1 + r1 + r2
              · rw [if_pos (show 0 < 1 + r1 + r2 - 3 by omega)] at HRes
                clear hc hx HSl hk hLl
                have HU := Lib.hid (((((HT.out.set0 (.int .i64 (m0))).set1 (.int .i64 (5 + p1 + p2))).set2 (.int .i64 (1 + r1 + r2 - 3))).alloc (.cells #[.int .i64 p0, .int .i64 p1, .int .i64 p2] 29)).alloc (.cells #[.int .i64 r0, .int .i64 r1, .int .i64 r2] 29)).cells
                have HB6 := Lib.hid (((((HB.out.setCell (p := ⟨w.heap.size + 1, 0, none⟩) (by simp only; omega) (.int .i64 (m0))).setCell (p := ⟨w.heap.size + 1, 1, none⟩) (by simp only; omega) (.int .i64 (5 + p1 + p2))).setCell (p := ⟨w.heap.size + 1, 2, none⟩) (by simp only; omega) (.int .i64 (1 + r1 + r2 - 3))).alloc (Nat.le_trans HB.out.size (by simp [World.setCell])) (.cells #[.int .i64 p0, .int .i64 p1, .int .i64 p2] 29)).alloc (Nat.le_trans HB.out.size (by simp [World.setCell])) (.cells #[.int .i64 r0, .int .i64 r1, .int .i64 r2] 29))
                go_wp2_with fail
                obtain ⟨g0, g1, g2⟩ := HU.out
                exact bodyPost_ret (v := bxV (m0) (5 + p1 + p2) (1 + r1 + r2 - 3)) (by simp [results, Try.results39, go_sem, bxV, g0, g1, g2]) rfl ⟨by rw [HRes.out]; rfl, HB6.out⟩
              · rw [if_neg (show ¬ 0 < 1 + r1 + r2 - 3 by omega)] at HRes
                clear hc hx HSl hk hLl
                have HU := Lib.hid (((((HT.out.set0 (.int .i64 (m0))).set1 (.int .i64 (5 + p1 + p2))).set2 (.int .i64 (0))).alloc (.cells #[.int .i64 p0, .int .i64 p1, .int .i64 p2] 29)).alloc (.cells #[.int .i64 r0, .int .i64 r1, .int .i64 r2] 29)).cells
                have HB6 := Lib.hid (((((HB.out.setCell (p := ⟨w.heap.size + 1, 0, none⟩) (by simp only; omega) (.int .i64 (m0))).setCell (p := ⟨w.heap.size + 1, 1, none⟩) (by simp only; omega) (.int .i64 (5 + p1 + p2))).setCell (p := ⟨w.heap.size + 1, 2, none⟩) (by simp only; omega) (.int .i64 (0))).alloc (Nat.le_trans HB.out.size (by simp [World.setCell])) (.cells #[.int .i64 p0, .int .i64 p1, .int .i64 p2] 29)).alloc (Nat.le_trans HB.out.size (by simp [World.setCell])) (.cells #[.int .i64 r0, .int .i64 r1, .int .i64 r2] 29))
                go_wp2_with fail
                obtain ⟨g0, g1, g2⟩ := HU.out
                exact bodyPost_ret (v := bxV (m0) (5 + p1 + p2) (0)) (by simp [results, Try.results39, go_sem, bxV, g0, g1, g2]) rfl ⟨by rw [HRes.out]; rfl, HB6.out⟩
theorem ly_any (g : FL) (IH : ∀ g' : FL, g'.sz < g.sz → LyOk g') : LyOk g := by
  intro k a b c v w d h hok hd
  by_cases h1 : k = 1
  · subst h1; exact ly_sym g a b c v w h
  · exact ly_row g IH k a b c v w d h hok hd h1
theorem lyOk_all : ∀ (n : Nat) (g : FL), g.sz < n → LyOk g := by
  intro n
  induction n with
  | zero => intro g h; omega
  | succ n ih => intro g h; exact ly_any g (fun g' h' => ih g' (by omega))
end Go.Proofs.Ytdloeiaaokhniaa
