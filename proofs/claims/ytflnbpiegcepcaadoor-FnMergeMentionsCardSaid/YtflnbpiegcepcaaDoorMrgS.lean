/- The reference's MergeIndex. -/
import Derived.Test.YtflnbpiegcepcaaDoorIdxValS
import Derived.Test.YtflnbpiegcepcaaDoorMrgMem
import Derived.Deep.RegionWith
namespace Go.Proofs.YtflnbpiegcepcaaDoor
open Go.RowKit
set_option maxHeartbeats 40000000
set_option maxRecDepth 100000
set_option linter.unusedVariables false

theorem smergeIndex_any (va vb : Value) (a b : List Ent) (w : World) (ha : SlE w va a) (hb : SlE w vb b) (hza : ∀ i, i < a.length → (ew a i).size ≤ maxLen) (hzb : ∀ i, i < b.length → (ew b i).size ≤ maxLen) :
    Calls Tryd.prog 24 #[va, vb] w (GaveE (mrgS a b) w) := by
  have HA := Lib.hid ha
  have HB := Lib.hid hb
  have HVA := Lib.hid (svalidIndex_any va a w ha hza)
  have HVB := Lib.hid (fun q => svalidIndex_any vb b (w.drewN q) (hb.drewN q) hzb)
  obtain ⟨aa, ca, rfl, la1, la2⟩ := ha.shape
  obtain ⟨ab, cb, rfl, lb1, lb2⟩ := hb.shape
  unfold maxLen at la2 lb2
  clear hza hzb ha hb
  cases oa : okI a with
  | false =>
    rw [mrgS_no1 oa]
    rw [oa] at HVA
    clear HVB HA HB oa
    go_enter Tryd.func24, Tryd.ntmps24
    go_wp2_with fail
    refine HVA.out.mono ?_
    rintro e w1 ⟨rfl, q1, rfl⟩
    go_wp2_with fail
    go_ret
    exact gaveE_nil (bel_drewN' (Below.refl _ _) q1)
  | true =>
  cases ob : okI b with
  | false =>
    rw [mrgS_no2 ob]
    rw [oa] at HVA
    rw [ob] at HVB
    clear HA HB ob
    go_enter Tryd.func24, Tryd.ntmps24
    go_wp2_with fail
    refine HVA.out.mono ?_
    rintro e w1 ⟨rfl, q1, rfl⟩
    go_wp2_with fail
    refine (HVB.out q1).mono ?_
    rintro e w2 ⟨rfl, q2, rfl⟩
    go_wp2_with fail
    go_ret
    exact gaveE_nil (bel_drewN' (Below.refl _ _) (q1 + q2))
  | true =>
    rw [oa] at HVA
    rw [ob] at HVB
    obtain ⟨la40, pa⟩ := okI_mem oa
    obtain ⟨lb40, pb⟩ := okI_mem ob
    have HOA := Lib.hid (okI_okE oa)
    have HOB := Lib.hid (okI_okE ob)
    have HPA : Hid (∀ i, i < a.length → (ep a i).length ≤ 40) := Lib.hid (fun i hi => by have := (pa _ (List.getElem_mem hi)).2.1; rw [ent_at a i hi] at this; exact (okPg_asc this).1)
    have HPB : Hid (∀ i, i < b.length → (ep b i).length ≤ 40) := Lib.hid (fun i hi => by have := (pb _ (List.getElem_mem hi)).2.1; rw [ent_at b i hi] at this; exact (okPg_asc this).1)
    have HDone := Lib.hid (fun E (h : Mid a b E a.length b.length) => h.done (okI_okE oa) (okI_okE ob))
    have HWd : Hid (∀ i, i < (mrgF a b).length → (ew (mrgF a b) i).size ≤ maxLen) := Lib.hid (words_at (fun e he => okW_size (words_ok oa ob e he)))
    have HRes : Hid (mrgS a b = if okI (mrgF a b) = true then mrgF a b else []) := Lib.hid (by unfold mrgS; rw [oa, ob]; rfl)
    clear oa ob pa pb
    generalize mrgF a b = F at *
    generalize mrgS a b = S at *
    have HZero := Lib.hid (Mid.zero a b)
    have HL := Lib.hid (fun E i k (h : Mid a b E i k) (hi : i < a.length) (hlt : k < b.length → ltW (ew a i) (ew b k) = true) => h.left HOA.out hi hlt)
    have HR := Lib.hid (fun E i k (h : Mid a b E i k) (hi : k < b.length) (hlt : i < a.length → ltW (ew b k) (ew a i) = true) => h.right HOB.out hi hlt)
    have HBo := Lib.hid (fun E i k (h : Mid a b E i k) (hi : i < a.length) (hk : k < b.length) (he : ew b k = ew a i) => h.both HOA.out HOB.out hi hk he)
    obtain ⟨na, hna⟩ : ∃ na, a.length = na := ⟨_, rfl⟩
    obtain ⟨nb, hnb⟩ : ∃ nb, b.length = nb := ⟨_, rfl⟩
    rw [hna] at HA HPA HDone HL HR HBo la1 la40 HVA ⊢
    rw [hnb] at HB HPB HDone HL HR HBo lb1 lb40 HVB ⊢
    clear hna hnb
    go_enter Tryd.func24, Tryd.ntmps24
    go_wp2_with fail
    refine HVA.out.mono ?_
    rintro e w1 ⟨rfl, q1, rfl⟩
    go_wp2_with fail
    refine (HVB.out q1).mono ?_
    rintro e w2 ⟨rfl, q2, rfl⟩
    clear HVA HVB
    have HW0 : Hid (Below w.heap.size w ((w.drewN (q1 + q2)).alloc (.cells #[] 40))) := Lib.hid ((bel_drewN' (Below.refl _ _) (q1 + q2)).alloc (Nat.le_refl _) _)
    have HO0 : Hid (OwnE w.heap.size ((w.drewN (q1 + q2)).alloc (.cells #[] 40)).heap.size ((w.drewN (q1 + q2)).alloc (.cells #[] 40)) (.slice (some ⟨w.heap.size, 0, none⟩) 0 0) []) := Lib.hid
      ⟨[], rfl, World.ownsRow_lit (w.drewN (q1 + q2)) #[] 0 (Nat.le_refl _) (Nat.zero_le _) rfl, fun k hk => by simp [Value.ownBlock] at hk; subst hk; simp, PgOwn.nil _ _ _ _ (Nat.le_refl _)⟩
    go_wp2_with fail
    go_loopw [5, 6, 7, 8, 9] (fun v5 u6 u7 u8 u9 wr => ∃ (i k : Nat) (vv : Value) (E : List Ent), i ≤ na ∧ k ≤ nb ∧ u6 = .int .i64 i ∧ u7 = .int .i64 k ∧ vv = v5 ∧ Hid (Mid a b E i k) ∧ Hid (OwnE w.heap.size wr.heap.size wr vv E) ∧ Hid (Below w.heap.size w wr)) (fun _ i k _ _ _ => (na - (intOf i).toNat) + (nb - (intOf k).toNat))
    case atStart => exact ⟨0, 0, _, [], by omega, by omega, rfl, rfl, rfl, HZero, HO0, HW0⟩
    case round =>
      clear HO0 HW0 HZero
      obtain ⟨i, k, vv, E, hi, hk, rfl, rfl, rfl, HMid, HO, HBW⟩ := hrel
      have HAw := Lib.hid (HA.out.below HBW.out)
      have HBw := Lib.hid (HB.out.below HBW.out)
      by_cases hi2 : i < na
      · have hin : ((i : Int) == (na : Int)) = false := by rw [beq_eq_false_iff_ne]; omega
        by_cases hk2 : k < nb
        · have hkn : ((k : Int) == (nb : Int)) = false := by rw [beq_eq_false_iff_ne]; omega
          cases hlt : ltW (ew a i) (ew b k) with
          | true =>
            obtain ⟨b1, o1, e, hblw1, -⟩ := HA.out.at (by omega)
            obtain ⟨b', o', e', hbl1, hat1⟩ := HAw.out.at (by omega)
            rw [e] at e'
            injection e' with e'
            injection e' with e1 e2
            subst e1 e2 e
            obtain ⟨vp, c01, c11, hsl1⟩ := hat1 i hi2
            have hpp1 := HPA.out i hi2
            obtain ⟨ap1, cp1, hsh⟩ := SlI.shape hsl1
            subst hsh
            obtain ⟨b2, o2, e, hblw2, -⟩ := HB.out.at (by omega)
            obtain ⟨b', o', e', hbl2, hat2⟩ := HBw.out.at (by omega)
            rw [e] at e'
            injection e' with e'
            injection e' with e1 e2
            subst e1 e2 e
            obtain ⟨vp, c02, c12, hsl2⟩ := hat2 k hk2
            have hpp2 := HPB.out k hk2
            obtain ⟨ap2, cp2, hsh⟩ := SlI.shape hsl2
            subst hsh
            have HSt := Lib.hid (HL.out E i k HMid.out hi2 (fun _ => hlt))
            have hlt' : Op.bytesLess (ew a i).toList (ew b k).toList = true := hlt
            clear HR HBo HPB hat2 hsl2 hpp2 c12 hlt
            go_wp2_with fail
            go_quiet (fail)
            have HBW : Hid (Below w.heap.size w (wr.drewN nq)) := Lib.hid (bel_drewN' HBW.out nq)
            have HO : Hid (OwnE w.heap.size (wr.drewN nq).heap.size (wr.drewN nq) vv E) := Lib.hid (HO.out.drewN nq)
            have c01 : (wr.drewN nq).cell? ⟨b1, o1 + i * 2, none⟩ = some (.string (ew a i)) := c01
            have c11 : (wr.drewN nq).cell? ⟨b1, o1 + i * 2 + 1, none⟩ = some (.slice ap1 (ep a i).length cp1) := c11
            have hsl1 : SlI (wr.drewN nq) (.slice ap1 (ep a i).length cp1) (ep a i) := hsl1
            have hbl1 : b1 < (wr.drewN nq).heap.size := hbl1
            clear c02 hlt'
            generalize wr.drewN nq = W at *
            have hlow : w.heap.size ≤ W.heap.size := HBW.out.size
            have hb40 : i ≤ 40 := by omega
            obtain ⟨X, hXE, hX⟩ := HO.out.rows
            have hXE' : E.length = X.length := by rw [← hXE, xE_len]
            have hElen := (HMid.out).len
            have HX := Lib.hid hX
            have HXE := Lib.hid hXE
            have hXl : X.length ≤ 100 := by omega
            obtain ⟨av, cv, hsh⟩ := row_shape hX.row
            subst hsh
            have HSv : Hid (SlI W (.slice ap1 (ep a i).length cp1) (ep a i)) := Lib.hid hsl1
            clear hXE hX hsl1 hat1 HO HMid
            have hPl : (ep a i).length ≤ 1000000 := by omega
            generalize hgs : ew a i = s at *
            generalize hgP : ep a i = P at *
            generalize hgl : P.length = l at *
            have HPlen := Lib.hid hgl
            clear hgs hgP hgl
            have p0 : Below W.heap.size W W.drew := (Below.refl _ _).drew
            have HCg : Hid (∀ x, Below w.heap.size W x → x.cell? ⟨b1, o1 + i * 2, none⟩ = some (.string s) ∧ x.cell? ⟨b1, o1 + i * 2 + 1, none⟩ = some (.slice ap1 l cp1)) := Lib.hid (fun x h2 => ⟨(h2.cell (p := ⟨b1, _, none⟩) hblw1).trans c01, (h2.cell (p := ⟨b1, _, none⟩) hblw1).trans c11⟩)
            have HKp : Hid (∀ x (o : Obj), Hid (Below w.heap.size W x) → Hid (Below w.heap.size W (x.alloc o)) ∧ ((x.alloc o).cell? ⟨b1, o1 + i * 2, none⟩ = some (.string s) ∧ (x.alloc o).cell? ⟨b1, o1 + i * 2 + 1, none⟩ = some (.slice ap1 l cp1))) := Lib.hid (fun x o h => by
              have h2 : Below w.heap.size W (x.alloc o) := h.out.alloc (Nat.le_trans hlow h.out.size) _
              exact ⟨Lib.hid h2, HCg.out _ h2⟩)
            have hN : Hid (Below w.heap.size W W.drew) ∧ (W.drew.cell? ⟨b1, o1 + i * 2, none⟩ = some (.string s) ∧ W.drew.cell? ⟨b1, o1 + i * 2 + 1, none⟩ = some (.slice ap1 l cp1)) := ⟨Lib.hid (p0.mono hlow), c01, c11⟩
            have HLit : Hid ((W.drew.alloc (.cells #[] 3)).ownsRow W.heap.size 3 1 (.slice (some ⟨W.heap.size, 0, none⟩) 0 0) 0 (([] : List Int).map (Value.int .i64))) := Lib.hid (World.ownsRow_lit W.drew #[] 0 (Nat.le_refl _) (Nat.zero_le _) rfl)
            have hBL : Below W.heap.size W (W.drew.alloc (.cells #[] 3)) := p0.alloc (Nat.le_refl _) _
            have HBL := Lib.hid hBL
            have HSL := Lib.hid (HSv.out.below hBL)
            have HXW := Lib.hid (fun (x : World) (h : Below W.heap.size W x) => HX.out.below h)
            clear c01 c11 p0 hBL HSv
            go_wp2_with fail
            go_region_held3 (fun w' => Hid (Below w.heap.size W w') ∧ (w'.cell? ⟨b1, o1 + i * 2, none⟩ = some (.string s) ∧ w'.cell? ⟨b1, o1 + i * 2 + 1, none⟩ = some (.slice ap1 l cp1))) (first | exact hN | exact HKp.out _ _ (And.left ‹Hid (Below w.heap.size W _) ∧ _›))
              (first
                | ((refine step_append_ent rfl _ _ (by rfl) w.heap.size (.slice av X.length cv) X.length (xC X) ((HXW.out _ HB2.out).row) (by rfl) ⟨w1.heap.size, 0, none⟩ 1 1 [.string s, .slice a1 l k1] (by rfl) rfl cell_litE (by intro u hu; simp at hu; rcases hu with rfl | rfl <;> rfl) (by omega) (by have := HB2.out.size; omega) ?_; intro v3 w3 h3 g3 x3; have H3 := Lib.hid h3; have G3 := Lib.hid g3; have X3 := Lib.hid x3; have HB3 : Hid (Below w.heap.size W w3) := Lib.hid ((HB2.out.mono hlow).grown g3 (Nat.le_trans hlow HB2.out.size) (fun j hj => (HX.out.row.lt j hj).1)); have hN : Hid (Below w.heap.size W w3) ∧ (w3.cell? ⟨b1, o1 + i * 2, none⟩ = some (.string s) ∧ w3.cell? ⟨b1, o1 + i * 2 + 1, none⟩ = some (.slice ap1 l cp1)) := ⟨HB3, HCg.out _ HB3.out⟩; clear h3 g3 x3))
                | ((refine step_append_sl rfl _ _ (by rfl) W.heap.size (.slice (some ⟨W.heap.size, 0, none⟩) 0 0) (.slice ap1 l cp1) 0 [] P HLit.out (by rfl) (by rfl) HSL.out (by rw [HPlen.out]; omega) HBL.out.size ?_; intro v1 w1 h1 g1; have hw1 : Below W.heap.size W w1 := HBL.out.grown g1 HBL.out.size (fun j hj => (HLit.out.lt j hj).1); obtain ⟨a1, k1, rfl⟩ := row_shape h1; have H1 : Hid (w1.ownsRow W.heap.size 3 1 (.slice a1 l k1) l (P.map (Value.int .i64))) := Lib.hid (by rw [HPlen.out, Nat.zero_add] at h1; exact h1); have HB1 := Lib.hid hw1; have HB2 : Hid (Below W.heap.size W (w1.alloc (.cells #[.string s, .slice a1 l k1] 40))) := Lib.hid (hw1.alloc hw1.size _); have hN : Hid (Below w.heap.size W w1) ∧ (w1.cell? ⟨b1, o1 + i * 2, none⟩ = some (.string s) ∧ w1.cell? ⟨b1, o1 + i * 2 + 1, none⟩ = some (.slice ap1 l cp1)) := ⟨Lib.hid (hw1.mono hlow), HCg.out _ (hw1.mono hlow)⟩; rw [HPlen.out, Nat.zero_add]; clear h1 g1 hw1)))
            have HY : Hid (OwnE w.heap.size w3.heap.size w3 v3 (E ++ [(s, P)])) := Lib.hid (by
              have hp : OwnI W.heap.size w1.heap.size w1 (.slice a1 l k1) P := ⟨by rw [HPlen.out]; exact H1.out, fun j hj => (H1.out.lt j hj).2, Nat.le_refl _⟩
              have hp2 := (hp.below ((Below.refl _ _).alloc (Nat.le_refl _) (.cells #[.string s, .slice a1 l k1] 40))).mono (Nat.le_refl _) (by simp : w1.heap.size ≤ (w1.alloc (.cells #[.string s, .slice a1 l k1] 40)).heap.size) (Nat.le_refl _)
              have h := (OwnX.pushed (HXW.out _ HB2.out) hp2 hlow (fun b hb => (HX.out.pg.top b hb).1) (fun b hb => (HX.out.row.lt b hb).2) H3.out G3.out X3.out).own
              rw [xE_append, HXE.out] at h
              exact h)
            have HBn : Hid (Below w.heap.size w w3) := Lib.hid (HBW.out.trans HB3.out)
            clear H3 G3 X3 HB3 hN HB2 HB1 H1 HXW HSL HBL HLit HKp HCg HX HXE
            go_wp2_with fail
            go_roundw
            case rel => exact ⟨(i + 1), k, v3, E ++ [(s, P)], by omega, by omega, by go_num, by go_num, rfl, HSt, HY, HBn⟩
            case measure => simp [intOf]; omega
          | false =>
          cases hgt : ltW (ew b k) (ew a i) with
          | true =>
            obtain ⟨b1, o1, e, hblw1, -⟩ := HB.out.at (by omega)
            obtain ⟨b', o', e', hbl1, hat1⟩ := HBw.out.at (by omega)
            rw [e] at e'
            injection e' with e'
            injection e' with e1 e2
            subst e1 e2 e
            obtain ⟨vp, c01, c11, hsl1⟩ := hat1 k hk2
            have hpp1 := HPB.out k hk2
            obtain ⟨ap1, cp1, hsh⟩ := SlI.shape hsl1
            subst hsh
            obtain ⟨b2, o2, e, hblw2, -⟩ := HA.out.at (by omega)
            obtain ⟨b', o', e', hbl2, hat2⟩ := HAw.out.at (by omega)
            rw [e] at e'
            injection e' with e'
            injection e' with e1 e2
            subst e1 e2 e
            obtain ⟨vp, c02, c12, hsl2⟩ := hat2 i hi2
            have hpp2 := HPA.out i hi2
            obtain ⟨ap2, cp2, hsh⟩ := SlI.shape hsl2
            subst hsh
            have HSt := Lib.hid (HR.out E i k HMid.out hk2 (fun _ => hgt))
            have hlt' : Op.bytesLess (ew a i).toList (ew b k).toList = false := hlt
            have hgt' : Op.bytesLess (ew b k).toList (ew a i).toList = true := hgt
            clear HL HBo HPA hat2 hsl2 hpp2 c12 hlt hgt
            go_wp2_with fail
            go_quiet (fail)
            have HBW : Hid (Below w.heap.size w (wr.drewN nq)) := Lib.hid (bel_drewN' HBW.out nq)
            have HO : Hid (OwnE w.heap.size (wr.drewN nq).heap.size (wr.drewN nq) vv E) := Lib.hid (HO.out.drewN nq)
            have c01 : (wr.drewN nq).cell? ⟨b1, o1 + k * 2, none⟩ = some (.string (ew b k)) := c01
            have c11 : (wr.drewN nq).cell? ⟨b1, o1 + k * 2 + 1, none⟩ = some (.slice ap1 (ep b k).length cp1) := c11
            have hsl1 : SlI (wr.drewN nq) (.slice ap1 (ep b k).length cp1) (ep b k) := hsl1
            have hbl1 : b1 < (wr.drewN nq).heap.size := hbl1
            have c02 : (wr.drewN nq).cell? ⟨b2, o2 + i * 2, none⟩ = some (.string (ew a i)) := c02
            generalize wr.drewN nq = U at *
            go_wp2_with fail
            go_quiet (fail)
            have HBW : Hid (Below w.heap.size w (U.drewN nq)) := Lib.hid (bel_drewN' HBW.out nq)
            have HO : Hid (OwnE w.heap.size (U.drewN nq).heap.size (U.drewN nq) vv E) := Lib.hid (HO.out.drewN nq)
            have c01 : (U.drewN nq).cell? ⟨b1, o1 + k * 2, none⟩ = some (.string (ew b k)) := c01
            have c11 : (U.drewN nq).cell? ⟨b1, o1 + k * 2 + 1, none⟩ = some (.slice ap1 (ep b k).length cp1) := c11
            have hsl1 : SlI (U.drewN nq) (.slice ap1 (ep b k).length cp1) (ep b k) := hsl1
            have hbl1 : b1 < (U.drewN nq).heap.size := hbl1
            clear c02 hlt' hgt'
            generalize U.drewN nq = W at *
            have hlow : w.heap.size ≤ W.heap.size := HBW.out.size
            have hb40 : k ≤ 40 := by omega
            obtain ⟨X, hXE, hX⟩ := HO.out.rows
            have hXE' : E.length = X.length := by rw [← hXE, xE_len]
            have hElen := (HMid.out).len
            have HX := Lib.hid hX
            have HXE := Lib.hid hXE
            have hXl : X.length ≤ 100 := by omega
            obtain ⟨av, cv, hsh⟩ := row_shape hX.row
            subst hsh
            have HSv : Hid (SlI W (.slice ap1 (ep b k).length cp1) (ep b k)) := Lib.hid hsl1
            clear hXE hX hsl1 hat1 HO HMid
            have hPl : (ep b k).length ≤ 1000000 := by omega
            generalize hgs : ew b k = s at *
            generalize hgP : ep b k = P at *
            generalize hgl : P.length = l at *
            have HPlen := Lib.hid hgl
            clear hgs hgP hgl
            have p0 : Below W.heap.size W W.drew := (Below.refl _ _).drew
            have HCg : Hid (∀ x, Below w.heap.size W x → x.cell? ⟨b1, o1 + k * 2, none⟩ = some (.string s) ∧ x.cell? ⟨b1, o1 + k * 2 + 1, none⟩ = some (.slice ap1 l cp1)) := Lib.hid (fun x h2 => ⟨(h2.cell (p := ⟨b1, _, none⟩) hblw1).trans c01, (h2.cell (p := ⟨b1, _, none⟩) hblw1).trans c11⟩)
            have HKp : Hid (∀ x (o : Obj), Hid (Below w.heap.size W x) → Hid (Below w.heap.size W (x.alloc o)) ∧ ((x.alloc o).cell? ⟨b1, o1 + k * 2, none⟩ = some (.string s) ∧ (x.alloc o).cell? ⟨b1, o1 + k * 2 + 1, none⟩ = some (.slice ap1 l cp1))) := Lib.hid (fun x o h => by
              have h2 : Below w.heap.size W (x.alloc o) := h.out.alloc (Nat.le_trans hlow h.out.size) _
              exact ⟨Lib.hid h2, HCg.out _ h2⟩)
            have hN : Hid (Below w.heap.size W W.drew) ∧ (W.drew.cell? ⟨b1, o1 + k * 2, none⟩ = some (.string s) ∧ W.drew.cell? ⟨b1, o1 + k * 2 + 1, none⟩ = some (.slice ap1 l cp1)) := ⟨Lib.hid (p0.mono hlow), c01, c11⟩
            have HLit : Hid ((W.drew.alloc (.cells #[] 3)).ownsRow W.heap.size 3 1 (.slice (some ⟨W.heap.size, 0, none⟩) 0 0) 0 (([] : List Int).map (Value.int .i64))) := Lib.hid (World.ownsRow_lit W.drew #[] 0 (Nat.le_refl _) (Nat.zero_le _) rfl)
            have hBL : Below W.heap.size W (W.drew.alloc (.cells #[] 3)) := p0.alloc (Nat.le_refl _) _
            have HBL := Lib.hid hBL
            have HSL := Lib.hid (HSv.out.below hBL)
            have HXW := Lib.hid (fun (x : World) (h : Below W.heap.size W x) => HX.out.below h)
            clear c01 c11 p0 hBL HSv
            go_wp2_with fail
            go_region_held3 (fun w' => Hid (Below w.heap.size W w') ∧ (w'.cell? ⟨b1, o1 + k * 2, none⟩ = some (.string s) ∧ w'.cell? ⟨b1, o1 + k * 2 + 1, none⟩ = some (.slice ap1 l cp1))) (first | exact hN | exact HKp.out _ _ (And.left ‹Hid (Below w.heap.size W _) ∧ _›))
              (first
                | ((refine step_append_ent rfl _ _ (by rfl) w.heap.size (.slice av X.length cv) X.length (xC X) ((HXW.out _ HB2.out).row) (by rfl) ⟨w1.heap.size, 0, none⟩ 1 1 [.string s, .slice a1 l k1] (by rfl) rfl cell_litE (by intro u hu; simp at hu; rcases hu with rfl | rfl <;> rfl) (by omega) (by have := HB2.out.size; omega) ?_; intro v3 w3 h3 g3 x3; have H3 := Lib.hid h3; have G3 := Lib.hid g3; have X3 := Lib.hid x3; have HB3 : Hid (Below w.heap.size W w3) := Lib.hid ((HB2.out.mono hlow).grown g3 (Nat.le_trans hlow HB2.out.size) (fun j hj => (HX.out.row.lt j hj).1)); have hN : Hid (Below w.heap.size W w3) ∧ (w3.cell? ⟨b1, o1 + k * 2, none⟩ = some (.string s) ∧ w3.cell? ⟨b1, o1 + k * 2 + 1, none⟩ = some (.slice ap1 l cp1)) := ⟨HB3, HCg.out _ HB3.out⟩; clear h3 g3 x3))
                | ((refine step_append_sl rfl _ _ (by rfl) W.heap.size (.slice (some ⟨W.heap.size, 0, none⟩) 0 0) (.slice ap1 l cp1) 0 [] P HLit.out (by rfl) (by rfl) HSL.out (by rw [HPlen.out]; omega) HBL.out.size ?_; intro v1 w1 h1 g1; have hw1 : Below W.heap.size W w1 := HBL.out.grown g1 HBL.out.size (fun j hj => (HLit.out.lt j hj).1); obtain ⟨a1, k1, rfl⟩ := row_shape h1; have H1 : Hid (w1.ownsRow W.heap.size 3 1 (.slice a1 l k1) l (P.map (Value.int .i64))) := Lib.hid (by rw [HPlen.out, Nat.zero_add] at h1; exact h1); have HB1 := Lib.hid hw1; have HB2 : Hid (Below W.heap.size W (w1.alloc (.cells #[.string s, .slice a1 l k1] 40))) := Lib.hid (hw1.alloc hw1.size _); have hN : Hid (Below w.heap.size W w1) ∧ (w1.cell? ⟨b1, o1 + k * 2, none⟩ = some (.string s) ∧ w1.cell? ⟨b1, o1 + k * 2 + 1, none⟩ = some (.slice ap1 l cp1)) := ⟨Lib.hid (hw1.mono hlow), HCg.out _ (hw1.mono hlow)⟩; rw [HPlen.out, Nat.zero_add]; clear h1 g1 hw1)))
            have HY : Hid (OwnE w.heap.size w3.heap.size w3 v3 (E ++ [(s, P)])) := Lib.hid (by
              have hp : OwnI W.heap.size w1.heap.size w1 (.slice a1 l k1) P := ⟨by rw [HPlen.out]; exact H1.out, fun j hj => (H1.out.lt j hj).2, Nat.le_refl _⟩
              have hp2 := (hp.below ((Below.refl _ _).alloc (Nat.le_refl _) (.cells #[.string s, .slice a1 l k1] 40))).mono (Nat.le_refl _) (by simp : w1.heap.size ≤ (w1.alloc (.cells #[.string s, .slice a1 l k1] 40)).heap.size) (Nat.le_refl _)
              have h := (OwnX.pushed (HXW.out _ HB2.out) hp2 hlow (fun b hb => (HX.out.pg.top b hb).1) (fun b hb => (HX.out.row.lt b hb).2) H3.out G3.out X3.out).own
              rw [xE_append, HXE.out] at h
              exact h)
            have HBn : Hid (Below w.heap.size w w3) := Lib.hid (HBW.out.trans HB3.out)
            clear H3 G3 X3 HB3 hN HB2 HB1 H1 HXW HSL HBL HLit HKp HCg HX HXE
            go_wp2_with fail
            go_roundw
            case rel => exact ⟨i, (k + 1), v3, E ++ [(s, P)], by omega, by omega, by go_num, by go_num, rfl, HSt, HY, HBn⟩
            case measure => simp [intOf]; omega
          | false =>
            obtain ⟨b1, o1, e, hblw1, -⟩ := HA.out.at (by omega)
            obtain ⟨b', o', e', hbl1, hat1⟩ := HAw.out.at (by omega)
            rw [e] at e'
            injection e' with e'
            injection e' with e1 e2
            subst e1 e2 e
            obtain ⟨vp, c01, c11, hsl1⟩ := hat1 i hi2
            have hpp1 := HPA.out i hi2
            obtain ⟨ap1, cp1, hsh⟩ := SlI.shape hsl1
            subst hsh
            obtain ⟨b2, o2, e, hblw2, -⟩ := HB.out.at (by omega)
            obtain ⟨b', o', e', hbl2, hat2⟩ := HBw.out.at (by omega)
            rw [e] at e'
            injection e' with e'
            injection e' with e1 e2
            subst e1 e2 e
            obtain ⟨vp, c02, c12, hsl2⟩ := hat2 k hk2
            have hpp2 := HPB.out k hk2
            obtain ⟨ap2, cp2, hsh⟩ := SlI.shape hsl2
            subst hsh
            have hee : ew b k = ew a i := ltW_tri hgt hlt
            have HSt := Lib.hid (HBo.out E i k HMid.out hi2 hk2 hee)
            have hlt' : Op.bytesLess (ew a i).toList (ew b k).toList = false := hlt
            have hgt' : Op.bytesLess (ew b k).toList (ew a i).toList = false := hgt
            clear HL HR hat1 hat2 hlt hgt hee HA HB HAw HBw HPA HPB
            go_wp2_with fail
            go_quiet (fail)
            have HBW : Hid (Below w.heap.size w (wr.drewN nq)) := Lib.hid (bel_drewN' HBW.out nq)
            have HO : Hid (OwnE w.heap.size (wr.drewN nq).heap.size (wr.drewN nq) vv E) := Lib.hid (HO.out.drewN nq)
            have c01 : (wr.drewN nq).cell? ⟨b1, o1 + i * 2, none⟩ = some (.string (ew a i)) := c01
            have c11 : (wr.drewN nq).cell? ⟨b1, o1 + i * 2 + 1, none⟩ = some (.slice ap1 (ep a i).length cp1) := c11
            have hsl1 : SlI (wr.drewN nq) (.slice ap1 (ep a i).length cp1) (ep a i) := hsl1
            have hbl1 : b1 < (wr.drewN nq).heap.size := hbl1
            have c02 : (wr.drewN nq).cell? ⟨b2, o2 + k * 2, none⟩ = some (.string (ew b k)) := c02
            have c12 : (wr.drewN nq).cell? ⟨b2, o2 + k * 2 + 1, none⟩ = some (.slice ap2 (ep b k).length cp2) := c12
            have hsl2 : SlI (wr.drewN nq) (.slice ap2 (ep b k).length cp2) (ep b k) := hsl2
            have hbl2 : b2 < (wr.drewN nq).heap.size := hbl2
            generalize wr.drewN nq = U at *
            go_wp2_with fail
            go_quiet (fail)
            have HBW : Hid (Below w.heap.size w (U.drewN nq)) := Lib.hid (bel_drewN' HBW.out nq)
            have HO : Hid (OwnE w.heap.size (U.drewN nq).heap.size (U.drewN nq) vv E) := Lib.hid (HO.out.drewN nq)
            have c01 : (U.drewN nq).cell? ⟨b1, o1 + i * 2, none⟩ = some (.string (ew a i)) := c01
            have c11 : (U.drewN nq).cell? ⟨b1, o1 + i * 2 + 1, none⟩ = some (.slice ap1 (ep a i).length cp1) := c11
            have hsl1 : SlI (U.drewN nq) (.slice ap1 (ep a i).length cp1) (ep a i) := hsl1
            have hbl1 : b1 < (U.drewN nq).heap.size := hbl1
            have c02 : (U.drewN nq).cell? ⟨b2, o2 + k * 2, none⟩ = some (.string (ew b k)) := c02
            have c12 : (U.drewN nq).cell? ⟨b2, o2 + k * 2 + 1, none⟩ = some (.slice ap2 (ep b k).length cp2) := c12
            have hsl2 : SlI (U.drewN nq) (.slice ap2 (ep b k).length cp2) (ep b k) := hsl2
            have hbl2 : b2 < (U.drewN nq).heap.size := hbl2
            clear hlt' hgt'
            generalize U.drewN nq = W at *
            have hlow : w.heap.size ≤ W.heap.size := HBW.out.size
            obtain ⟨X, hXE, hX⟩ := HO.out.rows
            have hXE' : E.length = X.length := by rw [← hXE, xE_len]
            have hElen := (HMid.out).len
            have HX := Lib.hid hX
            have HXE := Lib.hid hXE
            have hXl : X.length ≤ 100 := by omega
            obtain ⟨av, cv, hsh⟩ := row_shape hX.row
            subst hsh
            have HSv : Hid (SlI W (.slice ap1 (ep a i).length cp1) (ep a i)) := Lib.hid hsl1
            have HSq : Hid (SlI W (.slice ap2 (ep b k).length cp2) (ep b k)) := Lib.hid hsl2
            clear hXE hX hsl1 hsl2 HO HMid c02
            generalize hgs : ew a i = s at *
            generalize hgP : ep a i = P at *
            generalize hgQ : ep b k = Q at *
            generalize hgl : P.length = l at *
            generalize hgm : Q.length = m at *
            have HPlen := Lib.hid hgl
            have HQlen := Lib.hid hgm
            clear hgs hgP hgl hgQ hgm
            have p0 : Below W.heap.size W W.drew := (Below.refl _ _).drew
            have HCg : Hid (∀ x, Below w.heap.size W x → x.cell? ⟨b1, o1 + i * 2, none⟩ = some (.string s) ∧ x.cell? ⟨b1, o1 + i * 2 + 1, none⟩ = some (.slice ap1 l cp1)) := Lib.hid (fun x h2 => ⟨(h2.cell (p := ⟨b1, _, none⟩) hblw1).trans c01, (h2.cell (p := ⟨b1, _, none⟩) hblw1).trans c11⟩)
            have HKp : Hid (∀ x (o : Obj), Hid (Below w.heap.size W x) → Hid (Below w.heap.size W (x.alloc o)) ∧ ((x.alloc o).cell? ⟨b1, o1 + i * 2, none⟩ = some (.string s) ∧ (x.alloc o).cell? ⟨b1, o1 + i * 2 + 1, none⟩ = some (.slice ap1 l cp1))) := Lib.hid (fun x o h => by
              have h2 : Below w.heap.size W (x.alloc o) := h.out.alloc (Nat.le_trans hlow h.out.size) _
              exact ⟨Lib.hid h2, HCg.out _ h2⟩)
            have HKs : Hid (∀ x b u v, W.heap.size ≤ b → Hid (Below w.heap.size W x) → Hid (Below w.heap.size W ((x.setCell ⟨b, 0, none⟩ u).setCell ⟨b, 1, none⟩ v)) ∧ (((x.setCell ⟨b, 0, none⟩ u).setCell ⟨b, 1, none⟩ v).cell? ⟨b1, o1 + i * 2, none⟩ = some (.string s) ∧ ((x.setCell ⟨b, 0, none⟩ u).setCell ⟨b, 1, none⟩ v).cell? ⟨b1, o1 + i * 2 + 1, none⟩ = some (.slice ap1 l cp1))) := Lib.hid (fun x b u v hb h => by
              have h2 : Below w.heap.size W ((x.setCell ⟨b, 0, none⟩ u).setCell ⟨b, 1, none⟩ v) := (h.out.setCell (p := ⟨b, 0, none⟩) (Nat.le_trans hlow hb) _).setCell (p := ⟨b, 1, none⟩) (Nat.le_trans hlow hb) _
              exact ⟨Lib.hid h2, HCg.out _ h2⟩)
            have hN : Hid (Below w.heap.size W W.drew) ∧ (W.drew.cell? ⟨b1, o1 + i * 2, none⟩ = some (.string s) ∧ W.drew.cell? ⟨b1, o1 + i * 2 + 1, none⟩ = some (.slice ap1 l cp1)) := ⟨Lib.hid (p0.mono hlow), c01, c11⟩
            have HLit1 : Hid ((W.drew.alloc (.cells #[] 3)).ownsRow W.heap.size 3 1 (.slice (some ⟨W.heap.size, 0, none⟩) 0 0) 0 (([] : List Int).map (Value.int .i64))) := Lib.hid (World.ownsRow_lit W.drew #[] 0 (Nat.le_refl _) (Nat.zero_le _) rfl)
            have eb : (W.drew.alloc (.cells #[.string ⟨#[]⟩, .slice none 0 0] 40)).heap.size = W.heap.size + 1 := by simp
            have el : (W.drew.alloc (.cells #[] 3)).heap.size = W.heap.size + 1 := by simp
            have HLit2 : Hid (((W.drew.alloc (.cells #[.string ⟨#[]⟩, .slice none 0 0] 40)).alloc (.cells #[] 3)).ownsRow W.heap.size 3 1 (.slice (some ⟨W.heap.size + 1, 0, none⟩) 0 0) 0 (([] : List Int).map (Value.int .i64))) := Lib.hid (by
              have h := World.ownsRow_lit (W.drew.alloc (.cells #[.string ⟨#[]⟩, .slice none 0 0] 40)) (e := 3) (size := 1) #[] 0 (Nat.le_refl _) (Nat.zero_le _) rfl
              rw [eb] at h
              exact row_low h (by omega))
            have HLit3 : Hid (((W.drew.alloc (.cells #[] 3)).alloc (.cells #[.string ⟨#[]⟩, .slice none 0 0] 40)).ownsRow W.heap.size 3 1 (.slice (some ⟨W.heap.size, 0, none⟩) 0 0) 0 (([] : List Int).map (Value.int .i64))) := Lib.hid (HLit1.out.alloc _)
            have hB1 : Below W.heap.size W (W.drew.alloc (.cells #[] 3)) := p0.alloc (Nat.le_refl _) _
            have hB2 : Below W.heap.size W ((W.drew.alloc (.cells #[.string ⟨#[]⟩, .slice none 0 0] 40)).alloc (.cells #[] 3)) := (p0.alloc (Nat.le_refl _) _).alloc (by rw [eb]; omega) _
            have hB3 : Below W.heap.size W ((W.drew.alloc (.cells #[] 3)).alloc (.cells #[.string ⟨#[]⟩, .slice none 0 0] 40)) := hB1.alloc (by rw [el]; omega) _
            have HBL1 := Lib.hid hB1
            have HBL2 := Lib.hid hB2
            have HBL3 := Lib.hid hB3
            have HSL1 := Lib.hid (HSv.out.below hB1)
            have HSL2 := Lib.hid (HSv.out.below hB2)
            have HSL3 := Lib.hid (HSv.out.below hB3)
            have HT2 : Hid (Two 40 ((W.drew.alloc (.cells #[.string ⟨#[]⟩, .slice none 0 0] 40)).alloc (.cells #[] 3)) W.heap.size (.string ⟨#[]⟩) (.slice none 0 0)) := Lib.hid ((Two.new 40 W.drew (.string ⟨#[]⟩) (.slice none 0 0)).below ((Below.refl _ _).alloc (Nat.le_refl _) _))
            have HT3 : Hid (Two 40 ((W.drew.alloc (.cells #[] 3)).alloc (.cells #[.string ⟨#[]⟩, .slice none 0 0] 40)) (W.heap.size + 1) (.string ⟨#[]⟩) (.slice none 0 0)) := Lib.hid (by
              have h := Two.new 40 (W.drew.alloc (.cells #[] 3)) (.string ⟨#[]⟩) (.slice none 0 0)
              rwa [el] at h)
            clear c01 c11 p0 hB1 hB2 hB3 HSv eb el
            have hbW1 : W.heap.size ≤ W.heap.size + 1 := by omega
            have hbW0 : W.heap.size ≤ W.heap.size := Nat.le_refl _
            go_wp2_with fail
            go_region_held3 (fun w' => Hid (Below w.heap.size W w') ∧ (w'.cell? ⟨b1, o1 + i * 2, none⟩ = some (.string s) ∧ w'.cell? ⟨b1, o1 + i * 2 + 1, none⟩ = some (.slice ap1 l cp1))) (first | exact hN | exact HKp.out _ _ (And.left ‹Hid (Below w.heap.size W _) ∧ _›) | exact HKs.out _ _ _ _ hbW0 (And.left ‹Hid (Below w.heap.size W _) ∧ _›) | exact HKs.out _ _ _ _ hbW1 (And.left ‹Hid (Below w.heap.size W _) ∧ _›))
              (first
                | ((refine step_append_sl rfl _ _ (by rfl) W.heap.size (.slice (some ⟨W.heap.size + 1, 0, none⟩) 0 0) (.slice ap1 l cp1) 0 [] P HLit2.out (by rfl) (by rfl) HSL2.out (by rw [HPlen.out]; omega) HBL2.out.size ?_; intro v1 w1 h1 g1; have hw1 : Below W.heap.size W w1 := HBL2.out.grown g1 HBL2.out.size (fun j hj => (HLit2.out.lt j hj).1); obtain ⟨a1, k1, rfl⟩ := row_shape h1; have H1 : Hid (w1.ownsRow W.heap.size 3 1 (.slice a1 l k1) l (P.map (Value.int .i64))) := Lib.hid (by rw [HPlen.out, Nat.zero_add] at h1; exact h1); have HB1 := Lib.hid hw1; have hq2 : Two 40 w1 W.heap.size (.string ⟨#[]⟩) (.slice none 0 0) := HT2.out.same (g1.block _ HT2.out.lt (by simp [Value.ownBlock])); have d0 := hq2.c0; have d1 := hq2.c1; have e0 := hq2.f0 0; have e1 := hq2.f0 1; have HQ2 := Lib.hid hq2; have hN : Hid (Below w.heap.size W w1) ∧ (w1.cell? ⟨b1, o1 + i * 2, none⟩ = some (.string s) ∧ w1.cell? ⟨b1, o1 + i * 2 + 1, none⟩ = some (.slice ap1 l cp1)) := ⟨Lib.hid (hw1.mono hlow), HCg.out _ (hw1.mono hlow)⟩; rw [HPlen.out, Nat.zero_add]; clear h1 g1 hw1 hq2))
                | ((refine step_append_sl rfl _ _ (by rfl) W.heap.size (.slice (some ⟨W.heap.size, 0, none⟩) 0 0) (.slice ap1 l cp1) 0 [] P HLit3.out (by rfl) (by rfl) HSL3.out (by rw [HPlen.out]; omega) HBL3.out.size ?_; intro v1 w1 h1 g1; have hw1 : Below W.heap.size W w1 := HBL3.out.grown g1 HBL3.out.size (fun j hj => (HLit3.out.lt j hj).1); obtain ⟨a1, k1, rfl⟩ := row_shape h1; have H1 : Hid (w1.ownsRow W.heap.size 3 1 (.slice a1 l k1) l (P.map (Value.int .i64))) := Lib.hid (by rw [HPlen.out, Nat.zero_add] at h1; exact h1); have HB1 := Lib.hid hw1; have hq2 : Two 40 w1 (W.heap.size + 1) (.string ⟨#[]⟩) (.slice none 0 0) := HT3.out.same (g1.block _ HT3.out.lt (by simp [Value.ownBlock])); have d0 := hq2.c0; have d1 := hq2.c1; have e0 := hq2.f0 0; have e1 := hq2.f0 1; have HQ3 := Lib.hid hq2; have hN : Hid (Below w.heap.size W w1) ∧ (w1.cell? ⟨b1, o1 + i * 2, none⟩ = some (.string s) ∧ w1.cell? ⟨b1, o1 + i * 2 + 1, none⟩ = some (.slice ap1 l cp1)) := ⟨Lib.hid (hw1.mono hlow), HCg.out _ (hw1.mono hlow)⟩; rw [HPlen.out, Nat.zero_add]; clear h1 g1 hw1 hq2))
                | ((refine step_append_sl rfl _ _ (by rfl) W.heap.size (.slice (some ⟨W.heap.size, 0, none⟩) 0 0) (.slice ap1 l cp1) 0 [] P HLit1.out (by rfl) (by rfl) HSL1.out (by rw [HPlen.out]; omega) HBL1.out.size ?_; intro v1 w1 h1 g1; have hw1 : Below W.heap.size W w1 := HBL1.out.grown g1 HBL1.out.size (fun j hj => (HLit1.out.lt j hj).1); obtain ⟨a1, k1, rfl⟩ := row_shape h1; have H1 : Hid (w1.ownsRow W.heap.size 3 1 (.slice a1 l k1) l (P.map (Value.int .i64))) := Lib.hid (by rw [HPlen.out, Nat.zero_add] at h1; exact h1); have HB1 := Lib.hid hw1; have HQ1 := Lib.hid hw1; have hN : Hid (Below w.heap.size W w1) ∧ (w1.cell? ⟨b1, o1 + i * 2, none⟩ = some (.string s) ∧ w1.cell? ⟨b1, o1 + i * 2 + 1, none⟩ = some (.slice ap1 l cp1)) := ⟨Lib.hid (hw1.mono hlow), HCg.out _ (hw1.mono hlow)⟩; rw [HPlen.out, Nat.zero_add]; clear h1 g1 hw1)))
            all_goals
              have HP1 : Hid (OwnI W.heap.size w1.heap.size w1 (.slice a1 l k1) P) := Lib.hid ⟨by rw [HPlen.out]; exact H1.out, fun j hj => (H1.out.lt j hj).2, Nat.le_refl _⟩
              first
                | (obtain ⟨Bx, hBx⟩ : ∃ Bx, Bx = W.heap.size := ⟨_, rfl⟩; have HBX : Hid (XBox W.heap.size W ((w1.setCell ⟨Bx, 0, none⟩ (.string s)).setCell ⟨Bx, 1, none⟩ (.slice a1 l k1)) Bx s (.slice a1 l k1) P) := Lib.hid (by subst hBx; exact XBox.both HB1.out (Nat.le_refl _) HQ2.out HP1.out (row_two_ne H1.out HQ2.out)); rw [← hBx]; clear hBx)
                | (obtain ⟨Bx, hBx⟩ : ∃ Bx, Bx = W.heap.size + 1 := ⟨_, rfl⟩; have HBX : Hid (XBox W.heap.size W ((w1.setCell ⟨Bx, 0, none⟩ (.string s)).setCell ⟨Bx, 1, none⟩ (.slice a1 l k1)) Bx s (.slice a1 l k1) P) := Lib.hid (by subst hBx; exact XBox.both HB1.out (by omega) HQ3.out HP1.out (row_two_ne H1.out HQ3.out)); rw [← hBx]; clear hBx)
                | (obtain ⟨Bx, hBx⟩ : ∃ Bx, Bx = w1.heap.size := ⟨_, rfl⟩; have HBX : Hid (XBox W.heap.size W (w1.alloc (.cells #[.string s, .slice a1 l k1] 40)) Bx s (.slice a1 l k1) P) := Lib.hid (by subst hBx; exact ⟨HQ1.out.alloc HQ1.out.size _, HQ1.out.size, Two.new _ _ _ _, (HP1.out.below ((Below.refl _ _).alloc (Nat.le_refl _) _)).mono (Nat.le_refl _) (by simp) (Nat.le_refl _), fun e => by have := (H1.out.lt _ e).2; omega⟩); rw [← hBx]; clear hBx)
              clear HKp HKs HCg HLit1 HLit2 HLit3 HBL1 HBL2 HBL3 HSL1 HSL2 HSL3 HT2 HT3 hN HP1 H1 HB1
              go_wp2_with fail
              go_loopw [9] (fun u9 wr2 => ∃ (x : Nat) (vp : Value) (P' : List Int), x ≤ m ∧ u9 = .int .i64 x ∧ Hid (P' = uni P (Q.take x)) ∧ Hid (XBox W.heap.size W wr2 Bx s vp P')) (fun i _ => m - (intOf i).toNat)
              case atStart => exact ⟨0, _, P, by omega, rfl, Lib.hid rfl, HBX⟩
              case round =>
                clear HBX
                obtain ⟨x, vp, P', hx, rfl, HP', HBx⟩ := hrel
                have hbe := HBx.out.bel
                have hsz : W.heap.size ≤ wr.heap.size := hbe.size
                have q1 : wr.cell? ⟨b2, o2 + k * 2 + 1, none⟩ = some (.slice ap2 m cp2) := ((bcell hbe).1 _ _ hbl2).trans c12
                have hP'l : P'.length ≤ 100 := by
                  have h1 := uni_len (Q.take x) P
                  rw [← HP'.out, HPlen.out, List.length_take] at h1
                  omega
                obtain ⟨avp, cvp, hsh⟩ := row_shape HBx.out.pg.row
                subst hsh
                have x0 := HBx.out.box.c0
                have x1 := HBx.out.box.c1
                by_cases hxm : x < m
                · obtain ⟨bq, oq, rfl, hbq, hq⟩ := SlI.cells (HSq.out.below hbe) (by omega)
                  have q2 := hq x hxm
                  have HNx : Hid (addN P' (Q.getD x 0) = uni P (Q.take (x + 1))) := Lib.hid (by rw [uni_take (by rw [HQlen.out]; exact hxm), ← HP'.out])
                  have HBd := Lib.hid HBx.out.drew
                  have HAdd := Lib.hid (addNumber_any (.slice avp P'.length cvp) P' (Q.getD x 0) wr.drew ((HBx.out.pg.sl).drewN 1) (row_shp HBx.out.pg.row) (by omega))
                  clear hq HBx HP' hbe
                  generalize Q.getD x 0 = z at *
                  generalize hpl : P'.length = pl at *
                  have HPl2 := Lib.hid hpl
                  clear hpl
                  go_wp2_with fail
                  go_region_with (go_at_call 51; refine HAdd.out.mono ?_; rintro e w5 ⟨v5, rfl, b5, h5⟩; have hpg : Hid (XBox W.heap.size W (w5.setCell ⟨Bx, 1, none⟩ v5) Bx s v5 (addN P' z)) := Lib.hid (HBd.out.paged b5 hsz h5); have y1 := (HBd.out.box.below b5).c1; have y2 := (HBd.out.box.below b5).f0 1; have hv5 : ∃ a5 n5 c5, v5 = .slice a5 n5 c5 := (by rcases h5 with ⟨e5, _⟩ | h5; exact ⟨_, _, _, e5⟩; exact (by obtain ⟨a5, c5, e5⟩ := ownI_slice h5; exact ⟨_, _, _, e5⟩)); obtain ⟨a5, n5, c5, rfl⟩ := hv5; clear b5 h5)
                  all_goals
                    go_wp2_with fail
                    go_roundw
                    case rel => exact ⟨x + 1, _, _, by omega, by go_num, HNx, hpg⟩
                    case measure => simp [intOf]; omega
                · obtain rfl : x = m := by omega
                  have HPm : Hid (P' = uni P Q) := Lib.hid (by rw [HP'.out, ← HQlen.out, List.take_length])
                  have HXr := Lib.hid (HX.out.below hbe)
                  have hbA : Below wr.heap.size wr (wr.alloc (.cells #[.string s, .slice avp P'.length cvp] 40)) := (Below.refl _ _).alloc (Nat.le_refl _) _
                  have HXa := Lib.hid (HXr.out.below hbA)
                  have HPa := Lib.hid ((HBx.out.pg.below hbA).mono (Nat.le_refl _) (by simp : wr.heap.size ≤ (wr.alloc (.cells #[.string s, .slice avp P'.length cvp] 40)).heap.size) (Nat.le_refl _))
                  have HBa : Hid (Below w.heap.size w (wr.alloc (.cells #[.string s, .slice avp P'.length cvp] 40))) := Lib.hid ((HBW.out.trans (hbe.mono hlow)).alloc (Nat.le_trans hlow hsz) _)
                  clear hbA HP' HBx hbe
                  generalize hpl : P'.length = pl at *
                  have HPl2 := Lib.hid hpl
                  clear hpl
                  go_wp2_with (at_builtin; refine wpList_append_ent rfl _ _ rfl w.heap.size (.slice av X.length cv) X.length (xC X) HXa.out.row rfl ⟨wr.heap.size, 0, none⟩ 1 1 [.string s, .slice avp pl cvp] rfl rfl cell_litE (by intro u hu; simp at hu; rcases hu with rfl | rfl <;> rfl) (by omega) HBa.out.size ?_; intro v3 w3 h3 g3 x3; have H3 := Lib.hid h3; have G3 := Lib.hid g3; have X3 := Lib.hid x3; clear h3 g3 x3)
                  have HY : Hid (OwnE w.heap.size w3.heap.size w3 v3 (E ++ [(s, uni P Q)])) := Lib.hid (by
                    have hp2 := HPa.out
                    have h := (OwnX.pushed HXa.out hp2 hlow (fun b hb => (HX.out.pg.top b hb).1) (fun b hb => (HX.out.row.lt b hb).2) H3.out G3.out X3.out).own
                    rw [xE_append, HXE.out, HPm.out] at h
                    exact h)
                  have HBn : Hid (Below w.heap.size w w3) := Lib.hid (HBa.out.grown G3.out HBa.out.size (fun j hj => (HX.out.row.lt j hj).1))
                  clear H3 G3 X3 HXa HPa HBa HXr
                  go_wp2_with fail
                  go_roundw
                  case rel => exact ⟨i + 1, k + 1, v3, E ++ [(s, uni P Q)], by omega, by omega, by go_num, by go_num, rfl, HSt, HY, HBn⟩
                  case measure => simp [intOf]; omega
        · obtain rfl : k = nb := by omega
          obtain ⟨b1, o1, e, hblw1, -⟩ := HA.out.at (by omega)
          obtain ⟨b', o', e', hbl1, hat1⟩ := HAw.out.at (by omega)
          rw [e] at e'
          injection e' with e'
          injection e' with e1 e2
          subst e1 e2 e
          obtain ⟨vp, c01, c11, hsl1⟩ := hat1 i hi2
          have hpp1 := HPA.out i hi2
          obtain ⟨ap1, cp1, hsh⟩ := SlI.shape hsl1
          subst hsh
          have hlt0 : ∀ h : k < k, ltW (ew a i) (ew b k) = true := fun h => absurd h (Nat.lt_irrefl _)
          have HSt := Lib.hid (HL.out E i k HMid.out hi2 hlt0)
          clear HB HBw HR HBo hlt0 HPB
          go_wp2_with fail
          go_quiet (fail)
          have HBW : Hid (Below w.heap.size w (wr.drewN nq)) := Lib.hid (bel_drewN' HBW.out nq)
          have HO : Hid (OwnE w.heap.size (wr.drewN nq).heap.size (wr.drewN nq) vv E) := Lib.hid (HO.out.drewN nq)
          have c01 : (wr.drewN nq).cell? ⟨b1, o1 + i * 2, none⟩ = some (.string (ew a i)) := c01
          have c11 : (wr.drewN nq).cell? ⟨b1, o1 + i * 2 + 1, none⟩ = some (.slice ap1 (ep a i).length cp1) := c11
          have hsl1 : SlI (wr.drewN nq) (.slice ap1 (ep a i).length cp1) (ep a i) := hsl1
          have hbl1 : b1 < (wr.drewN nq).heap.size := hbl1
          generalize wr.drewN nq = W at *
          have hlow : w.heap.size ≤ W.heap.size := HBW.out.size
          have hb40 : i ≤ 40 := by omega
          obtain ⟨X, hXE, hX⟩ := HO.out.rows
          have hXE' : E.length = X.length := by rw [← hXE, xE_len]
          have hElen := (HMid.out).len
          have HX := Lib.hid hX
          have HXE := Lib.hid hXE
          have hXl : X.length ≤ 100 := by omega
          obtain ⟨av, cv, hsh⟩ := row_shape hX.row
          subst hsh
          have HSv : Hid (SlI W (.slice ap1 (ep a i).length cp1) (ep a i)) := Lib.hid hsl1
          clear hXE hX hsl1 hat1 HO HMid
          have hPl : (ep a i).length ≤ 1000000 := by omega
          generalize hgs : ew a i = s at *
          generalize hgP : ep a i = P at *
          generalize hgl : P.length = l at *
          have HPlen := Lib.hid hgl
          clear hgs hgP hgl
          have p0 : Below W.heap.size W W.drew := (Below.refl _ _).drew
          have HCg : Hid (∀ x, Below w.heap.size W x → x.cell? ⟨b1, o1 + i * 2, none⟩ = some (.string s) ∧ x.cell? ⟨b1, o1 + i * 2 + 1, none⟩ = some (.slice ap1 l cp1)) := Lib.hid (fun x h2 => ⟨(h2.cell (p := ⟨b1, _, none⟩) hblw1).trans c01, (h2.cell (p := ⟨b1, _, none⟩) hblw1).trans c11⟩)
          have HKp : Hid (∀ x (o : Obj), Hid (Below w.heap.size W x) → Hid (Below w.heap.size W (x.alloc o)) ∧ ((x.alloc o).cell? ⟨b1, o1 + i * 2, none⟩ = some (.string s) ∧ (x.alloc o).cell? ⟨b1, o1 + i * 2 + 1, none⟩ = some (.slice ap1 l cp1))) := Lib.hid (fun x o h => by
            have h2 : Below w.heap.size W (x.alloc o) := h.out.alloc (Nat.le_trans hlow h.out.size) _
            exact ⟨Lib.hid h2, HCg.out _ h2⟩)
          have hN : Hid (Below w.heap.size W W.drew) ∧ (W.drew.cell? ⟨b1, o1 + i * 2, none⟩ = some (.string s) ∧ W.drew.cell? ⟨b1, o1 + i * 2 + 1, none⟩ = some (.slice ap1 l cp1)) := ⟨Lib.hid (p0.mono hlow), c01, c11⟩
          have HLit : Hid ((W.drew.alloc (.cells #[] 3)).ownsRow W.heap.size 3 1 (.slice (some ⟨W.heap.size, 0, none⟩) 0 0) 0 (([] : List Int).map (Value.int .i64))) := Lib.hid (World.ownsRow_lit W.drew #[] 0 (Nat.le_refl _) (Nat.zero_le _) rfl)
          have hBL : Below W.heap.size W (W.drew.alloc (.cells #[] 3)) := p0.alloc (Nat.le_refl _) _
          have HBL := Lib.hid hBL
          have HSL := Lib.hid (HSv.out.below hBL)
          have HXW := Lib.hid (fun (x : World) (h : Below W.heap.size W x) => HX.out.below h)
          clear c01 c11 p0 hBL HSv
          go_wp2_with fail
          go_region_held3 (fun w' => Hid (Below w.heap.size W w') ∧ (w'.cell? ⟨b1, o1 + i * 2, none⟩ = some (.string s) ∧ w'.cell? ⟨b1, o1 + i * 2 + 1, none⟩ = some (.slice ap1 l cp1))) (first | exact hN | exact HKp.out _ _ (And.left ‹Hid (Below w.heap.size W _) ∧ _›))
            (first
              | ((refine step_append_ent rfl _ _ (by rfl) w.heap.size (.slice av X.length cv) X.length (xC X) ((HXW.out _ HB2.out).row) (by rfl) ⟨w1.heap.size, 0, none⟩ 1 1 [.string s, .slice a1 l k1] (by rfl) rfl cell_litE (by intro u hu; simp at hu; rcases hu with rfl | rfl <;> rfl) (by omega) (by have := HB2.out.size; omega) ?_; intro v3 w3 h3 g3 x3; have H3 := Lib.hid h3; have G3 := Lib.hid g3; have X3 := Lib.hid x3; have HB3 : Hid (Below w.heap.size W w3) := Lib.hid ((HB2.out.mono hlow).grown g3 (Nat.le_trans hlow HB2.out.size) (fun j hj => (HX.out.row.lt j hj).1)); have hN : Hid (Below w.heap.size W w3) ∧ (w3.cell? ⟨b1, o1 + i * 2, none⟩ = some (.string s) ∧ w3.cell? ⟨b1, o1 + i * 2 + 1, none⟩ = some (.slice ap1 l cp1)) := ⟨HB3, HCg.out _ HB3.out⟩; clear h3 g3 x3))
              | ((refine step_append_sl rfl _ _ (by rfl) W.heap.size (.slice (some ⟨W.heap.size, 0, none⟩) 0 0) (.slice ap1 l cp1) 0 [] P HLit.out (by rfl) (by rfl) HSL.out (by rw [HPlen.out]; omega) HBL.out.size ?_; intro v1 w1 h1 g1; have hw1 : Below W.heap.size W w1 := HBL.out.grown g1 HBL.out.size (fun j hj => (HLit.out.lt j hj).1); obtain ⟨a1, k1, rfl⟩ := row_shape h1; have H1 : Hid (w1.ownsRow W.heap.size 3 1 (.slice a1 l k1) l (P.map (Value.int .i64))) := Lib.hid (by rw [HPlen.out, Nat.zero_add] at h1; exact h1); have HB1 := Lib.hid hw1; have HB2 : Hid (Below W.heap.size W (w1.alloc (.cells #[.string s, .slice a1 l k1] 40))) := Lib.hid (hw1.alloc hw1.size _); have hN : Hid (Below w.heap.size W w1) ∧ (w1.cell? ⟨b1, o1 + i * 2, none⟩ = some (.string s) ∧ w1.cell? ⟨b1, o1 + i * 2 + 1, none⟩ = some (.slice ap1 l cp1)) := ⟨Lib.hid (hw1.mono hlow), HCg.out _ (hw1.mono hlow)⟩; rw [HPlen.out, Nat.zero_add]; clear h1 g1 hw1)))
          have HY : Hid (OwnE w.heap.size w3.heap.size w3 v3 (E ++ [(s, P)])) := Lib.hid (by
            have hp : OwnI W.heap.size w1.heap.size w1 (.slice a1 l k1) P := ⟨by rw [HPlen.out]; exact H1.out, fun j hj => (H1.out.lt j hj).2, Nat.le_refl _⟩
            have hp2 := (hp.below ((Below.refl _ _).alloc (Nat.le_refl _) (.cells #[.string s, .slice a1 l k1] 40))).mono (Nat.le_refl _) (by simp : w1.heap.size ≤ (w1.alloc (.cells #[.string s, .slice a1 l k1] 40)).heap.size) (Nat.le_refl _)
            have h := (OwnX.pushed (HXW.out _ HB2.out) hp2 hlow (fun b hb => (HX.out.pg.top b hb).1) (fun b hb => (HX.out.row.lt b hb).2) H3.out G3.out X3.out).own
            rw [xE_append, HXE.out] at h
            exact h)
          have HBn : Hid (Below w.heap.size w w3) := Lib.hid (HBW.out.trans HB3.out)
          clear H3 G3 X3 HB3 hN HB2 HB1 H1 HXW HSL HBL HLit HKp HCg HX HXE
          go_wp2_with fail
          go_roundw
          case rel => exact ⟨(i + 1), k, v3, E ++ [(s, P)], by omega, by omega, by go_num, by go_num, rfl, HSt, HY, HBn⟩
          case measure => simp [intOf]; omega
      · have hii : i = na := by omega
        by_cases hk2 : k < nb
        · have hkn : ((k : Int) == (nb : Int)) = false := by rw [beq_eq_false_iff_ne]; omega
          obtain ⟨b1, o1, e, hblw1, -⟩ := HB.out.at (by omega)
          obtain ⟨b', o', e', hbl1, hat1⟩ := HBw.out.at (by omega)
          rw [e] at e'
          injection e' with e'
          injection e' with e1 e2
          subst e1 e2 e
          obtain ⟨vp, c01, c11, hsl1⟩ := hat1 k hk2
          have hpp1 := HPB.out k hk2
          obtain ⟨ap1, cp1, hsh⟩ := SlI.shape hsl1
          subst hsh
          have HSt := Lib.hid (HR.out E i k HMid.out hk2 (fun h => absurd h hi2))
          have hin : ((i : Int) == (na : Int)) = true := by rw [hii]; simp
          have hid : decide ((i : Int) < (na : Int)) = false := decide_eq_false (by omega)
          have hid2 : decide (i < na) = false := decide_eq_false (by omega)
          have Hin := Lib.hid hin
          clear HA HAw HL HBo HPA hii hi2 hin
          go_wp2_with fail
          go_region
          have HBW : Hid (Below w.heap.size w wr.drew) := Lib.hid (HBW.out.drew)
          have HO : Hid (OwnE w.heap.size wr.drew.heap.size wr.drew vv E) := Lib.hid (HO.out.drewN 1)
          have c01 : wr.drew.cell? ⟨b1, o1 + k * 2, none⟩ = some (.string (ew b k)) := c01
          have c11 : wr.drew.cell? ⟨b1, o1 + k * 2 + 1, none⟩ = some (.slice ap1 (ep b k).length cp1) := c11
          have hsl1 : SlI wr.drew (.slice ap1 (ep b k).length cp1) (ep b k) := hsl1
          have hbl1 : b1 < wr.drew.heap.size := hbl1
          generalize wr.drew = U at *
          have hin := Hin.out
          clear hid hid2
          go_wp2_with fail
          go_region
          have HBW : Hid (Below w.heap.size w U.drew) := Lib.hid (HBW.out.drew)
          have HO : Hid (OwnE w.heap.size U.drew.heap.size U.drew vv E) := Lib.hid (HO.out.drewN 1)
          have c01 : U.drew.cell? ⟨b1, o1 + k * 2, none⟩ = some (.string (ew b k)) := c01
          have c11 : U.drew.cell? ⟨b1, o1 + k * 2 + 1, none⟩ = some (.slice ap1 (ep b k).length cp1) := c11
          have hsl1 : SlI U.drew (.slice ap1 (ep b k).length cp1) (ep b k) := hsl1
          have hbl1 : b1 < U.drew.heap.size := hbl1
          generalize U.drew = W at *
          clear hin
          have hlow : w.heap.size ≤ W.heap.size := HBW.out.size
          have hb40 : k ≤ 40 := by omega
          obtain ⟨X, hXE, hX⟩ := HO.out.rows
          have hXE' : E.length = X.length := by rw [← hXE, xE_len]
          have hElen := (HMid.out).len
          have HX := Lib.hid hX
          have HXE := Lib.hid hXE
          have hXl : X.length ≤ 100 := by omega
          obtain ⟨av, cv, hsh⟩ := row_shape hX.row
          subst hsh
          have HSv : Hid (SlI W (.slice ap1 (ep b k).length cp1) (ep b k)) := Lib.hid hsl1
          clear hXE hX hsl1 hat1 HO HMid
          have hPl : (ep b k).length ≤ 1000000 := by omega
          generalize hgs : ew b k = s at *
          generalize hgP : ep b k = P at *
          generalize hgl : P.length = l at *
          have HPlen := Lib.hid hgl
          clear hgs hgP hgl
          have p0 : Below W.heap.size W W.drew := (Below.refl _ _).drew
          have HCg : Hid (∀ x, Below w.heap.size W x → x.cell? ⟨b1, o1 + k * 2, none⟩ = some (.string s) ∧ x.cell? ⟨b1, o1 + k * 2 + 1, none⟩ = some (.slice ap1 l cp1)) := Lib.hid (fun x h2 => ⟨(h2.cell (p := ⟨b1, _, none⟩) hblw1).trans c01, (h2.cell (p := ⟨b1, _, none⟩) hblw1).trans c11⟩)
          have HKp : Hid (∀ x (o : Obj), Hid (Below w.heap.size W x) → Hid (Below w.heap.size W (x.alloc o)) ∧ ((x.alloc o).cell? ⟨b1, o1 + k * 2, none⟩ = some (.string s) ∧ (x.alloc o).cell? ⟨b1, o1 + k * 2 + 1, none⟩ = some (.slice ap1 l cp1))) := Lib.hid (fun x o h => by
            have h2 : Below w.heap.size W (x.alloc o) := h.out.alloc (Nat.le_trans hlow h.out.size) _
            exact ⟨Lib.hid h2, HCg.out _ h2⟩)
          have hN : Hid (Below w.heap.size W W.drew) ∧ (W.drew.cell? ⟨b1, o1 + k * 2, none⟩ = some (.string s) ∧ W.drew.cell? ⟨b1, o1 + k * 2 + 1, none⟩ = some (.slice ap1 l cp1)) := ⟨Lib.hid (p0.mono hlow), c01, c11⟩
          have HLit : Hid ((W.drew.alloc (.cells #[] 3)).ownsRow W.heap.size 3 1 (.slice (some ⟨W.heap.size, 0, none⟩) 0 0) 0 (([] : List Int).map (Value.int .i64))) := Lib.hid (World.ownsRow_lit W.drew #[] 0 (Nat.le_refl _) (Nat.zero_le _) rfl)
          have hBL : Below W.heap.size W (W.drew.alloc (.cells #[] 3)) := p0.alloc (Nat.le_refl _) _
          have HBL := Lib.hid hBL
          have HSL := Lib.hid (HSv.out.below hBL)
          have HXW := Lib.hid (fun (x : World) (h : Below W.heap.size W x) => HX.out.below h)
          clear c01 c11 p0 hBL HSv
          go_wp2_with fail
          go_region_held3 (fun w' => Hid (Below w.heap.size W w') ∧ (w'.cell? ⟨b1, o1 + k * 2, none⟩ = some (.string s) ∧ w'.cell? ⟨b1, o1 + k * 2 + 1, none⟩ = some (.slice ap1 l cp1))) (first | exact hN | exact HKp.out _ _ (And.left ‹Hid (Below w.heap.size W _) ∧ _›))
            (first
              | ((refine step_append_ent rfl _ _ (by rfl) w.heap.size (.slice av X.length cv) X.length (xC X) ((HXW.out _ HB2.out).row) (by rfl) ⟨w1.heap.size, 0, none⟩ 1 1 [.string s, .slice a1 l k1] (by rfl) rfl cell_litE (by intro u hu; simp at hu; rcases hu with rfl | rfl <;> rfl) (by omega) (by have := HB2.out.size; omega) ?_; intro v3 w3 h3 g3 x3; have H3 := Lib.hid h3; have G3 := Lib.hid g3; have X3 := Lib.hid x3; have HB3 : Hid (Below w.heap.size W w3) := Lib.hid ((HB2.out.mono hlow).grown g3 (Nat.le_trans hlow HB2.out.size) (fun j hj => (HX.out.row.lt j hj).1)); have hN : Hid (Below w.heap.size W w3) ∧ (w3.cell? ⟨b1, o1 + k * 2, none⟩ = some (.string s) ∧ w3.cell? ⟨b1, o1 + k * 2 + 1, none⟩ = some (.slice ap1 l cp1)) := ⟨HB3, HCg.out _ HB3.out⟩; clear h3 g3 x3))
              | ((refine step_append_sl rfl _ _ (by rfl) W.heap.size (.slice (some ⟨W.heap.size, 0, none⟩) 0 0) (.slice ap1 l cp1) 0 [] P HLit.out (by rfl) (by rfl) HSL.out (by rw [HPlen.out]; omega) HBL.out.size ?_; intro v1 w1 h1 g1; have hw1 : Below W.heap.size W w1 := HBL.out.grown g1 HBL.out.size (fun j hj => (HLit.out.lt j hj).1); obtain ⟨a1, k1, rfl⟩ := row_shape h1; have H1 : Hid (w1.ownsRow W.heap.size 3 1 (.slice a1 l k1) l (P.map (Value.int .i64))) := Lib.hid (by rw [HPlen.out, Nat.zero_add] at h1; exact h1); have HB1 := Lib.hid hw1; have HB2 : Hid (Below W.heap.size W (w1.alloc (.cells #[.string s, .slice a1 l k1] 40))) := Lib.hid (hw1.alloc hw1.size _); have hN : Hid (Below w.heap.size W w1) ∧ (w1.cell? ⟨b1, o1 + k * 2, none⟩ = some (.string s) ∧ w1.cell? ⟨b1, o1 + k * 2 + 1, none⟩ = some (.slice ap1 l cp1)) := ⟨Lib.hid (hw1.mono hlow), HCg.out _ (hw1.mono hlow)⟩; rw [HPlen.out, Nat.zero_add]; clear h1 g1 hw1)))
          have HY : Hid (OwnE w.heap.size w3.heap.size w3 v3 (E ++ [(s, P)])) := Lib.hid (by
            have hp : OwnI W.heap.size w1.heap.size w1 (.slice a1 l k1) P := ⟨by rw [HPlen.out]; exact H1.out, fun j hj => (H1.out.lt j hj).2, Nat.le_refl _⟩
            have hp2 := (hp.below ((Below.refl _ _).alloc (Nat.le_refl _) (.cells #[.string s, .slice a1 l k1] 40))).mono (Nat.le_refl _) (by simp : w1.heap.size ≤ (w1.alloc (.cells #[.string s, .slice a1 l k1] 40)).heap.size) (Nat.le_refl _)
            have h := (OwnX.pushed (HXW.out _ HB2.out) hp2 hlow (fun b hb => (HX.out.pg.top b hb).1) (fun b hb => (HX.out.row.lt b hb).2) H3.out G3.out X3.out).own
            rw [xE_append, HXE.out] at h
            exact h)
          have HBn : Hid (Below w.heap.size w w3) := Lib.hid (HBW.out.trans HB3.out)
          clear H3 G3 X3 HB3 hN HB2 HB1 H1 HXW HSL HBL HLit HKp HCg HX HXE
          go_wp2_with fail
          go_roundw
          case rel => exact ⟨i, (k + 1), v3, E ++ [(s, P)], by omega, by omega, by go_num, by go_num, rfl, HSt, HY, HBn⟩
          case measure => simp [intOf]; omega
        · obtain rfl : k = nb := by omega
          subst hii
          have HEF := Lib.hid (HDone.out E HMid.out)
          have HOF : Hid (OwnE w.heap.size wr.heap.size wr vv F) := Lib.hid (by rw [← HEF.out]; exact HO.out)
          have HV := Lib.hid (svalidIndex_any vv F wr HOF.out.sl HWd.out)
          clear HA HB HAw HBw HL HR HBo HPA HPB HMid HO HEF HDone
          cases ok : okI F with
          | false =>
            rw [ok] at HV HRes
            have HRes : Hid (S = []) := Lib.hid (by rw [HRes.out]; simp)
            go_wp2_with fail
            refine HV.out.mono ?_
            rintro e w5 ⟨rfl, q5, rfl⟩
            go_wp2_with fail
            go_ret
            rw [HRes.out]
            exact gaveE_nil (bel_drewN' HBW.out q5)
          | true =>
            rw [ok] at HV HRes
            have HRes : Hid (S = F) := Lib.hid (by rw [HRes.out]; simp)
            go_wp2_with fail
            refine HV.out.mono ?_
            rintro e w5 ⟨rfl, q5, rfl⟩
            have HE : Hid (GaveE F w (.returned vv) (wr.drewN q5)) := Lib.hid ⟨_, rfl, HOF.out.drewN q5, bel_drewN' HBW.out q5⟩
            go_wp2_with fail
            go_ret
            rw [HRes.out]
            exact HE.out
end Go.Proofs.YtflnbpiegcepcaaDoor
