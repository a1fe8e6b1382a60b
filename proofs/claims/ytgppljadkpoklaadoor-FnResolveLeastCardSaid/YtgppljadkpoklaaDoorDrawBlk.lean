/- Drawn blocks. -/
import Derived.Test.YtgppljadkpoklaaDoorRefExact
import Derived.Test.YtgppljadkpoklaaDoorDrawCols2
namespace Go.Proofs.YtgppljadkpoklaaDoor
open Go.RowKit
set_option maxHeartbeats 2000000
set_option maxRecDepth 100000

theorem blkC_app : ∀ (A B : List Blk), blkC (A ++ B) = blkC A ++ blkC B
  | [], B => rfl
  | p :: r, B => by simp [blkC, blkC_app r B]
/-- One block appended to a row of the call's own. -/
theorem wpList_append_blk {ops : Array Oper} {rest : List Oper} {o : Oper} {a : Act} {Q : Exit → Act → World → Prop} {w : World} (hgd : o.guard = none) (s x : Operand)
    (ho : o.op = .call { callee := .builtin .append, args := #[s, x], argTypes := #[23, 23] }) (B : Nat) (v : Value) (F : List Blk) (z y t : Int)
    (hown : w.ownsRow B 31 3 v F.length (blkC F)) (hs : a.eval s = v) (hx : a.eval x = .slice (some ⟨w.heap.size, 0, none⟩) 1 1) (h63 : F.length ≤ 1000000) (hbase : B ≤ w.heap.size)
    (h : ∀ v' w', w'.ownsRow B 31 3 v' (F.length + 1) (blkC (F ++ [(z, y, t)])) → w.grownBy w' v.ownBlock → wpList Tryd.prog ops Q rest (a.put o.dst v') w') :
    wpList Tryd.prog ops Q (o :: rest) a (w.alloc (.cells #[.int .i64 z, .int .i64 y, .int .i64 t] 31)) := by
  obtain ⟨i0, hi, hz0, hz1, hz2⟩ := info_parts blkInfo
  refine wpList_append_own _ hgd s x 23 ho B 31 i0 (.agg #[.int .i64 0, .int .i64 0, .int .i64 0]) 3 24 Tryd.underlying23 hi hz0 hz1 hz2 rfl (by decide) v F.length _ hs (hown.alloc _) ⟨w.heap.size, 0, none⟩ 1 1 [.int .i64 z, .int .i64 y, .int .i64 t] hx rfl ?_ (by intro u hu; simp at hu; rcases hu with rfl | rfl | rfl <;> rfl) (by unfold maxLen; omega) (by omega) (by simp; omega) ?_
  · intro j u hj
    match j, hj with
    | 0, hj => simp at hj; subst hj; simp [go_sem]
    | 1, hj => simp at hj; subst hj; simp [go_sem]
    | 2, hj => simp at hj; subst hj; simp [go_sem]
    | j + 3, hj => simp at hj
  · intro v' w' h1 h2 _
    refine h v' w' (by rw [blkC_app]; exact h1) (grownBy_trans (World.grownBy_alloc w _ _) h2)

theorem wpList_append_blkH {ops : Array Oper} {rest : List Oper} {o : Oper} {a : Act} {Q : Exit → Act → World → Prop} {w : World} (H : Nat) (hH : w.heap.size = H) (hgd : o.guard = none) (s x : Operand)
    (ho : o.op = .call { callee := .builtin .append, args := #[s, x], argTypes := #[23, 23] }) (B : Nat) (v : Value) (F : List Blk) (z y t : Int)
    (hown : w.ownsRow B 31 3 v F.length (blkC F)) (hs : a.eval s = v) (hx : a.eval x = .slice (some ⟨H, 0, none⟩) 1 1) (h63 : F.length ≤ 1000000) (hbase : B ≤ w.heap.size)
    (h : ∀ v' w', w'.ownsRow B 31 3 v' (F.length + 1) (blkC (F ++ [(z, y, t)])) → w.grownBy w' v.ownBlock → wpList Tryd.prog ops Q rest (a.put o.dst v') w') :
    wpList Tryd.prog ops Q (o :: rest) a (w.alloc (.cells #[.int .i64 z, .int .i64 y, .int .i64 t] 31)) := by
  subst hH
  exact wpList_append_blk hgd s x ho B v F z y t hown hs hx h63 hbase h
theorem ownsC_keeps {T : TypeId} {m rb B n : Nat} {w w' : World} {v : Value} {xs : List Value} (h : w.ownsRow B T m v n xs) (hk : Keeps rb w w') (hB : rb < B) : w'.ownsRow B T m v n xs := owns_keeps h hk hB
theorem ownC_aside {T : TypeId} {m lo hi g : Nat} {w w' : World} {v : Value} {n : Nat} {C : List Value} (h : OwnC T m lo hi w v n C) (hg : w.grownBy w' (some g)) (hd : hi ≤ g) : OwnC T m lo hi w' v n C := by
  refine ⟨h.row.kept hg ?_, h.top, Nat.le_trans h.fits hg.size⟩
  cases hv : v.ownBlock with
  | none => exact .inl rfl
  | some k =>
    refine .inr ?_
    intro he
    have a2 := h.top k hv
    injection he with he
    omega
theorem ownC_keeps {T : TypeId} {m rb lo hi n : Nat} {w w' : World} {v : Value} {xs : List Value} (h : OwnC T m lo hi w v n xs) (hk : Keeps rb w w') (hB : rb < lo) : OwnC T m lo hi w' v n xs :=
  ⟨ownsC_keeps h.row hk hB, h.top, Nat.le_trans h.fits hk.below.size⟩
/-- A short list of blocks, drawn. -/
def DrewB (rb P m : Nat) (w : World) (e : Ending) (w' : World) : Prop := ∃ (v : Value) (B : List Blk), B.length ≤ m ∧ e = .returned v ∧ OwnB w.heap.size w'.heap.size w' v B ∧ Rdr w' rb P ∧ Keeps rb w w'

theorem randomBlocks_any (rb P : Nat) (w : World) (hP : P ≤ 800000) (hR : Rdr w rb P) :
    Calls Tryd.prog 48 #[.pointer (some ⟨rb, 0, none⟩)] w (DrewB rb (P + 50) 8 w) := by
  have hrb := hR.lies
  have HO : Hid ((w.alloc (.cells #[] 31)).ownsRow w.heap.size 31 3 (.slice (some ⟨w.heap.size, 0, none⟩) 0 0) 0 (blkC [])) :=
    World.ownsRow_lit w #[] 0 (Nat.le_refl _) (Nat.zero_le _) rfl
  have hb2 : Below w.heap.size w (w.alloc (.cells #[] 31)) := (Below.refl _ _).alloc (Nat.le_refl _) _
  have hR2 := hR.below hb2
  have HK2 := Lib.hid (Keeps.of_below hrb hb2)
  clear hb2 hR
  go_enter Tryd.func48, Tryd.ntmps48
  go_wp2_with fail
  refine (pick_pos rb P 9 _ (by omega) (by omega) hR2).mono ?_
  rintro e w2 ⟨c, hc, rfl, hR3, hK3⟩
  have HO3 := Lib.hid (ownsC_keeps HO.out hK3 hrb)
  have HK3 := Lib.hid (HK2.out.trans hK3)
  have HR3 := Lib.hid hR3
  clear HO HK2 hK3 hR3 hR2
  go_wp2_with fail
  go_loopw [3, 4, 5] (fun v p n wr => ∃ (k l : Nat) (F : List Blk), n = .int .i64 k ∧ p = .int .i64 l ∧ l ≤ 9 ∧ k + F.length ≤ 8 ∧ Hid (Rdr wr rb (P + 1 + 4 * F.length)) ∧ Hid (Keeps rb w wr) ∧ Hid (wr.ownsRow w.heap.size 31 3 v F.length (blkC F))) (fun _ _ n _ => (intOf n).toNat)
  case atStart => exact ⟨c, 1, [], rfl, rfl, by omega, by simp; omega, HR3, HK3, HO3⟩
  case round =>
    clear HO3 HK3 HR3 hc
    obtain ⟨k, l, F, rfl, rfl, hl, hkl, HR, HK, HO⟩ := hrel
    by_cases hk : 0 < k
    · have hFl : F.length ≤ 8 := by omega
      go_wp2_with fail
      refine (pick_pos rb (P + 1 + 4 * F.length) 6 _ (by omega) (by omega) HR.out).mono ?_
      rintro e w3 ⟨x, hx, rfl, hR3, hK3⟩
      have HO3 := Lib.hid (ownsC_keeps HO.out hK3 hrb)
      have HK3 := Lib.hid (HK.out.trans hK3)
      have HR3 := Lib.hid hR3
      clear hK3 hR3 HO HK HR
      have hbA : Below w3.heap.size w3 (w3.alloc (.cells #[.int .i64 (1 + (x : Int)), .int .i64 0, .int .i64 0] 31)) := (Below.refl _ _).alloc (Nat.le_refl _) _
      have HR1 := Lib.hid (HR3.out.below hbA)
      have hrg : rb < w3.heap.size := HR3.out.lies
      have hlo : w.heap.size ≤ w3.heap.size := HK3.out.below.size
      have HK1 := Lib.hid (HK3.out.trans (Keeps.of_below hrg hbA))
      have HF1 := Lib.hid ((ownC_of HO3.out).below hbA)
      have HT1 : Hid (OwnC 31 3 w3.heap.size (w3.heap.size + 1) (w3.alloc (.cells #[.int .i64 (1 + (x : Int)), .int .i64 0, .int .i64 0] 31)) (.slice (some ⟨w3.heap.size, 0, none⟩) 1 1) 1 [.int .i64 (1 + (x : Int)), .int .i64 0, .int .i64 0]) := Lib.hid (by
        have h0 : (w3.alloc (.cells #[.int .i64 (1 + (x : Int)), .int .i64 0, .int .i64 0] 31)).ownsRow w3.heap.size 31 3 (.slice (some ⟨w3.heap.size, 0, none⟩) 1 1) 1 [.int .i64 (1 + (x : Int)), .int .i64 0, .int .i64 0] := World.ownsRow_lit w3 #[.int .i64 (1 + (x : Int)), .int .i64 0, .int .i64 0] 1 (Nat.le_refl _) (by decide) rfl
        have := ownC_of h0
        simpa using this)
      clear hbA HR3 HK3 HO3
      by_cases hl9 : l < 9
      · have hd1 : decide (l < 9) = true := decide_eq_true hl9
        have hd2 : decide ((l : Int) < 9) = true := decide_eq_true (by omega)
        go_wp2_with fail
        generalize w3.alloc (.cells #[.int .i64 (1 + (x : Int)), .int .i64 0, .int .i64 0] 31) = W1 at *
        generalize w3.heap.size = g at *
        refine (pick_pos rb (P + 1 + 4 * F.length + 1) 2 _ (by omega) (by omega) HR1.out).mono ?_
        rintro e w4 ⟨y, hy, rfl, hR4, hK4⟩
        have HR4 := Lib.hid hR4
        have HF4 := Lib.hid (ownC_keeps HF1.out hK4 hrb)
        have HT4 := Lib.hid (ownC_keeps HT1.out hK4 hrg)
        have HK4 := Lib.hid (HK1.out.trans hK4)
        have hgw : w.heap.size ≤ w4.heap.size := Nat.le_trans HF4.out.fits (Nat.le_refl _) |> Nat.le_trans hlo
        clear hR4 hK4 HR1 HF1 HT1 HK1
        by_cases hy0 : y = 0
        · subst hy0
          have c0 : w4.cell? ⟨g, 0, none⟩ = some (.int .i64 (1 + (x : Int))) := HT4.out.row.cellAt 0 (by omega)
          have c1 : w4.cell? ⟨g, 1, none⟩ = some (.int .i64 (0)) := HT4.out.row.cellAt 1 (by omega)
          have c2 : w4.cell? ⟨g, 2, none⟩ = some (.int .i64 (0)) := HT4.out.row.cellAt 2 (by omega)
          have f1 : w4.frozen? ⟨g, 1, none⟩ = false := HT4.out.row.frozenAt 1
          have HS := Lib.hid (HT4.out.row.stored 1 (.int .i64 (l : Int)))
          have HF2 := Lib.hid (ownC_aside HF4.out HS.out.2 (Nat.le_refl _))
          have HR2 := Lib.hid (HR4.out.grown HS.out.2 (fun j hj => by injection hj with hj; omega)).1
          have HK2 := Lib.hid (HK4.out.grown HS.out.2 hrb (fun j hj => by injection hj with hj; omega))
          have HT2 : Hid (OwnC 31 3 g (g + 1) (w4.setCell ⟨g, 1, none⟩ (.int .i64 (l : Int))) (.slice (some ⟨g, 0, none⟩) 1 1) 1 [.int .i64 (1 + (x : Int)), .int .i64 (l : Int), .int .i64 0]) := Lib.hid ⟨HS.out.1, HT4.out.top, Nat.le_trans HT4.out.fits HS.out.2.size⟩
          clear HS HF4 HR4 HK4 HT4
          go_wp2_with fail
          generalize w4.setCell ⟨g, 1, none⟩ (.int .i64 (l : Int)) = W2 at *
          refine (pick_pos rb (P + 1 + 4 * F.length + 1 + 1) 2 _ (by omega) (by omega) HR2.out).mono ?_
          rintro e w5 ⟨z, hz, rfl, hR5, hK5⟩
          have HR5 := Lib.hid hR5
          have HF5 := Lib.hid (ownC_keeps HF2.out hK5 hrb)
          have HT5 := Lib.hid (ownC_keeps HT2.out hK5 hrg)
          have HK5 := Lib.hid (HK2.out.trans hK5)
          have hgw : w.heap.size ≤ w5.heap.size := Nat.le_trans HF5.out.fits (Nat.le_refl _) |> Nat.le_trans hlo
          clear hR5 hK5 HR2 HF2 HT2 HK2
          by_cases hz0 : z = 0
          · subst hz0
            go_wp2_with fail
            refine (pick_pos rb (P + 1 + 4 * F.length + 1 + 1 + 1) 9 _ (by omega) (by omega) HR5.out).mono ?_
            rintro e w6 ⟨q, hq, rfl, hR6, hK6⟩
            have HR6 := Lib.hid hR6
            have HF6 := Lib.hid (ownC_keeps HF5.out hK6 hrb)
            have HT6 := Lib.hid (ownC_keeps HT5.out hK6 hrg)
            have HK6 := Lib.hid (HK5.out.trans hK6)
            have hgw : w.heap.size ≤ w6.heap.size := Nat.le_trans HF6.out.fits (Nat.le_refl _) |> Nat.le_trans hlo
            clear hR6 hK6 HR5 HF5 HT5 HK5
            have c0 : w6.cell? ⟨g, 0, none⟩ = some (.int .i64 (1 + (x : Int))) := HT6.out.row.cellAt 0 (by omega)
            have c1 : w6.cell? ⟨g, 1, none⟩ = some (.int .i64 ((l : Int))) := HT6.out.row.cellAt 1 (by omega)
            have c2 : w6.cell? ⟨g, 2, none⟩ = some (.int .i64 (0)) := HT6.out.row.cellAt 2 (by omega)
            have f2 : w6.frozen? ⟨g, 2, none⟩ = false := HT6.out.row.frozenAt 2
            have HS := Lib.hid (HT6.out.row.stored 2 (.int .i64 (1 + (q : Int)))).2
            have HF7 := Lib.hid (ownC_aside HF6.out HS.out (Nat.le_refl _))
            have HR7 := Lib.hid (HR6.out.grown HS.out (fun j hj => by injection hj with hj; omega)).1
            have HK7 := Lib.hid (HK6.out.grown HS.out hrb (fun j hj => by injection hj with hj; omega))
            have hgw : w.heap.size ≤ (w6.setCell ⟨g, 2, none⟩ (.int .i64 (1 + (q : Int)))).heap.size := Nat.le_trans hgw HS.out.size
            clear HS HF6 HR6 HK6 HT6
            go_wp2_with (at_builtin; go_must (refine wpList_append_blkH w6.heap.size (by simp [World.setCell]) rfl _ _ rfl w.heap.size _ F (1 + (x : Int)) ((l : Int)) (1 + (q : Int)) HF7.out.row rfl rfl (by omega) hgw ?_))
            intro v' w8 hown' hgrow
            have hR8 := (HR7.out.grown hgrow (fun j hj => by have := (HF7.out.row.lt j hj).1; omega)).1
            have HK8 := Lib.hid (HK7.out.grown hgrow hrb (fun j hj => (HF7.out.row.lt j hj).1))
            have HR8 := Lib.hid hR8
            have HO8 : Hid (w8.ownsRow w.heap.size 31 3 v' (F ++ [((1 + (x : Int) : Int), ((l : Int) : Int), (1 + (q : Int) : Int))]).length (blkC (F ++ [((1 + (x : Int) : Int), ((l : Int) : Int), (1 + (q : Int) : Int))]))) := Lib.hid (by simpa using hown')
            have HSub : Hid ((k : Int) - 1 = ((k - 1 : Nat) : Int)) := Lib.hid (by omega)
            clear hown' hgrow hR8 HF7 HR7 HK7
            go_wp2_with fail
            rw [HSub.out]
            go_roundw
            case rel => exact ⟨k - 1, l + 1, F ++ [((1 + (x : Int) : Int), ((l : Int) : Int), (1 + (q : Int) : Int))], rfl, by first | rfl | go_num, by omega, by simp; omega, Lib.hid (HR8.out.mono (by simp; omega)), HK8, HO8⟩
            case measure => simp [intOf]; omega
          · have hze : ((z : Int) == 0) = false := by simpa using hz0
            have c0 : w5.cell? ⟨g, 0, none⟩ = some (.int .i64 (1 + (x : Int))) := HT5.out.row.cellAt 0 (by omega)
            have c1 : w5.cell? ⟨g, 1, none⟩ = some (.int .i64 ((l : Int))) := HT5.out.row.cellAt 1 (by omega)
            have c2 : w5.cell? ⟨g, 2, none⟩ = some (.int .i64 (0)) := HT5.out.row.cellAt 2 (by omega)
            clear HT5
            go_wp2_with (at_builtin; go_must (refine wpList_append_blk rfl _ _ rfl w.heap.size _ F (1 + (x : Int)) ((l : Int)) (0) HF5.out.row rfl rfl (by omega) hgw ?_))
            intro v' w8 hown' hgrow
            have hR8 := (HR5.out.grown hgrow (fun j hj => by have := (HF5.out.row.lt j hj).1; omega)).1
            have HK8 := Lib.hid (HK5.out.grown hgrow hrb (fun j hj => (HF5.out.row.lt j hj).1))
            have HR8 := Lib.hid hR8
            have HO8 : Hid (w8.ownsRow w.heap.size 31 3 v' (F ++ [((1 + (x : Int) : Int), ((l : Int) : Int), (0 : Int))]).length (blkC (F ++ [((1 + (x : Int) : Int), ((l : Int) : Int), (0 : Int))]))) := Lib.hid (by simpa using hown')
            have HSub : Hid ((k : Int) - 1 = ((k - 1 : Nat) : Int)) := Lib.hid (by omega)
            clear hown' hgrow hR8 HF5 HR5 HK5
            go_wp2_with fail
            rw [HSub.out]
            go_roundw
            case rel => exact ⟨k - 1, l + 1, F ++ [((1 + (x : Int) : Int), ((l : Int) : Int), (0 : Int))], rfl, by first | rfl | go_num, by omega, by simp; omega, Lib.hid (HR8.out.mono (by simp; omega)), HK8, HO8⟩
            case measure => simp [intOf]; omega
        · have hye : ((y : Int) == 0) = false := by simpa using hy0
          go_wp2_with fail
          refine (pick_pos rb (P + 1 + 4 * F.length + 1 + 1) 2 _ (by omega) (by omega) HR4.out).mono ?_
          rintro e w5 ⟨z, hz, rfl, hR5, hK5⟩
          have HR5 := Lib.hid hR5
          have HF5 := Lib.hid (ownC_keeps HF4.out hK5 hrb)
          have HT5 := Lib.hid (ownC_keeps HT4.out hK5 hrg)
          have HK5 := Lib.hid (HK4.out.trans hK5)
          have hgw : w.heap.size ≤ w5.heap.size := Nat.le_trans HF5.out.fits (Nat.le_refl _) |> Nat.le_trans hlo
          clear hR5 hK5 HR4 HF4 HT4 HK4
          by_cases hz0 : z = 0
          · subst hz0
            go_wp2_with fail
            refine (pick_pos rb (P + 1 + 4 * F.length + 1 + 1 + 1) 9 _ (by omega) (by omega) HR5.out).mono ?_
            rintro e w6 ⟨q, hq, rfl, hR6, hK6⟩
            have HR6 := Lib.hid hR6
            have HF6 := Lib.hid (ownC_keeps HF5.out hK6 hrb)
            have HT6 := Lib.hid (ownC_keeps HT5.out hK6 hrg)
            have HK6 := Lib.hid (HK5.out.trans hK6)
            have hgw : w.heap.size ≤ w6.heap.size := Nat.le_trans HF6.out.fits (Nat.le_refl _) |> Nat.le_trans hlo
            clear hR6 hK6 HR5 HF5 HT5 HK5
            have c0 : w6.cell? ⟨g, 0, none⟩ = some (.int .i64 (1 + (x : Int))) := HT6.out.row.cellAt 0 (by omega)
            have c1 : w6.cell? ⟨g, 1, none⟩ = some (.int .i64 (0)) := HT6.out.row.cellAt 1 (by omega)
            have c2 : w6.cell? ⟨g, 2, none⟩ = some (.int .i64 (0)) := HT6.out.row.cellAt 2 (by omega)
            have f2 : w6.frozen? ⟨g, 2, none⟩ = false := HT6.out.row.frozenAt 2
            have HS := Lib.hid (HT6.out.row.stored 2 (.int .i64 (1 + (q : Int)))).2
            have HF7 := Lib.hid (ownC_aside HF6.out HS.out (Nat.le_refl _))
            have HR7 := Lib.hid (HR6.out.grown HS.out (fun j hj => by injection hj with hj; omega)).1
            have HK7 := Lib.hid (HK6.out.grown HS.out hrb (fun j hj => by injection hj with hj; omega))
            have hgw : w.heap.size ≤ (w6.setCell ⟨g, 2, none⟩ (.int .i64 (1 + (q : Int)))).heap.size := Nat.le_trans hgw HS.out.size
            clear HS HF6 HR6 HK6 HT6
            go_wp2_with (at_builtin; go_must (refine wpList_append_blkH w6.heap.size (by simp [World.setCell]) rfl _ _ rfl w.heap.size _ F (1 + (x : Int)) (0) (1 + (q : Int)) HF7.out.row rfl rfl (by omega) hgw ?_))
            intro v' w8 hown' hgrow
            have hR8 := (HR7.out.grown hgrow (fun j hj => by have := (HF7.out.row.lt j hj).1; omega)).1
            have HK8 := Lib.hid (HK7.out.grown hgrow hrb (fun j hj => (HF7.out.row.lt j hj).1))
            have HR8 := Lib.hid hR8
            have HO8 : Hid (w8.ownsRow w.heap.size 31 3 v' (F ++ [((1 + (x : Int) : Int), (0 : Int), (1 + (q : Int) : Int))]).length (blkC (F ++ [((1 + (x : Int) : Int), (0 : Int), (1 + (q : Int) : Int))]))) := Lib.hid (by simpa using hown')
            have HSub : Hid ((k : Int) - 1 = ((k - 1 : Nat) : Int)) := Lib.hid (by omega)
            clear hown' hgrow hR8 HF7 HR7 HK7
            go_wp2_with fail
            rw [HSub.out]
            go_roundw
            case rel => exact ⟨k - 1, l, F ++ [((1 + (x : Int) : Int), (0 : Int), (1 + (q : Int) : Int))], rfl, by first | rfl | go_num, by omega, by simp; omega, Lib.hid (HR8.out.mono (by simp; omega)), HK8, HO8⟩
            case measure => simp [intOf]; omega
          · have hze : ((z : Int) == 0) = false := by simpa using hz0
            have c0 : w5.cell? ⟨g, 0, none⟩ = some (.int .i64 (1 + (x : Int))) := HT5.out.row.cellAt 0 (by omega)
            have c1 : w5.cell? ⟨g, 1, none⟩ = some (.int .i64 (0)) := HT5.out.row.cellAt 1 (by omega)
            have c2 : w5.cell? ⟨g, 2, none⟩ = some (.int .i64 (0)) := HT5.out.row.cellAt 2 (by omega)
            clear HT5
            go_wp2_with (at_builtin; go_must (refine wpList_append_blk rfl _ _ rfl w.heap.size _ F (1 + (x : Int)) (0) (0) HF5.out.row rfl rfl (by omega) hgw ?_))
            intro v' w8 hown' hgrow
            have hR8 := (HR5.out.grown hgrow (fun j hj => by have := (HF5.out.row.lt j hj).1; omega)).1
            have HK8 := Lib.hid (HK5.out.grown hgrow hrb (fun j hj => (HF5.out.row.lt j hj).1))
            have HR8 := Lib.hid hR8
            have HO8 : Hid (w8.ownsRow w.heap.size 31 3 v' (F ++ [((1 + (x : Int) : Int), (0 : Int), (0 : Int))]).length (blkC (F ++ [((1 + (x : Int) : Int), (0 : Int), (0 : Int))]))) := Lib.hid (by simpa using hown')
            have HSub : Hid ((k : Int) - 1 = ((k - 1 : Nat) : Int)) := Lib.hid (by omega)
            clear hown' hgrow hR8 HF5 HR5 HK5
            go_wp2_with fail
            rw [HSub.out]
            go_roundw
            case rel => exact ⟨k - 1, l, F ++ [((1 + (x : Int) : Int), (0 : Int), (0 : Int))], rfl, by first | rfl | go_num, by omega, by simp; omega, Lib.hid (HR8.out.mono (by simp; omega)), HK8, HO8⟩
            case measure => simp [intOf]; omega
      · have hd1 : decide (l < 9) = false := decide_eq_false hl9
        have hd2 : decide ((l : Int) < 9) = false := decide_eq_false (by omega)
        go_wp2_with fail
        generalize w3.alloc (.cells #[.int .i64 (1 + (x : Int)), .int .i64 0, .int .i64 0] 31) = W1 at *
        generalize w3.heap.size = g at *
        refine (pick_pos rb (P + 1 + 4 * F.length + 1) 2 _ (by omega) (by omega) HR1.out).mono ?_
        rintro e w5 ⟨z, hz, rfl, hR5, hK5⟩
        have HR5 := Lib.hid hR5
        have HF5 := Lib.hid (ownC_keeps HF1.out hK5 hrb)
        have HT5 := Lib.hid (ownC_keeps HT1.out hK5 hrg)
        have HK5 := Lib.hid (HK1.out.trans hK5)
        have hgw : w.heap.size ≤ w5.heap.size := Nat.le_trans HF5.out.fits (Nat.le_refl _) |> Nat.le_trans hlo
        clear hR5 hK5 HR1 HF1 HT1 HK1
        by_cases hz0 : z = 0
        · subst hz0
          go_wp2_with fail
          refine (pick_pos rb (P + 1 + 4 * F.length + 1 + 1) 9 _ (by omega) (by omega) HR5.out).mono ?_
          rintro e w6 ⟨q, hq, rfl, hR6, hK6⟩
          have HR6 := Lib.hid hR6
          have HF6 := Lib.hid (ownC_keeps HF5.out hK6 hrb)
          have HT6 := Lib.hid (ownC_keeps HT5.out hK6 hrg)
          have HK6 := Lib.hid (HK5.out.trans hK6)
          have hgw : w.heap.size ≤ w6.heap.size := Nat.le_trans HF6.out.fits (Nat.le_refl _) |> Nat.le_trans hlo
          clear hR6 hK6 HR5 HF5 HT5 HK5
          have c0 : w6.cell? ⟨g, 0, none⟩ = some (.int .i64 (1 + (x : Int))) := HT6.out.row.cellAt 0 (by omega)
          have c1 : w6.cell? ⟨g, 1, none⟩ = some (.int .i64 (0)) := HT6.out.row.cellAt 1 (by omega)
          have c2 : w6.cell? ⟨g, 2, none⟩ = some (.int .i64 (0)) := HT6.out.row.cellAt 2 (by omega)
          have f2 : w6.frozen? ⟨g, 2, none⟩ = false := HT6.out.row.frozenAt 2
          have HS := Lib.hid (HT6.out.row.stored 2 (.int .i64 (1 + (q : Int)))).2
          have HF7 := Lib.hid (ownC_aside HF6.out HS.out (Nat.le_refl _))
          have HR7 := Lib.hid (HR6.out.grown HS.out (fun j hj => by injection hj with hj; omega)).1
          have HK7 := Lib.hid (HK6.out.grown HS.out hrb (fun j hj => by injection hj with hj; omega))
          have hgw : w.heap.size ≤ (w6.setCell ⟨g, 2, none⟩ (.int .i64 (1 + (q : Int)))).heap.size := Nat.le_trans hgw HS.out.size
          clear HS HF6 HR6 HK6 HT6
          go_wp2_with (at_builtin; go_must (refine wpList_append_blkH w6.heap.size (by simp [World.setCell]) rfl _ _ rfl w.heap.size _ F (1 + (x : Int)) (0) (1 + (q : Int)) HF7.out.row rfl rfl (by omega) hgw ?_))
          intro v' w8 hown' hgrow
          have hR8 := (HR7.out.grown hgrow (fun j hj => by have := (HF7.out.row.lt j hj).1; omega)).1
          have HK8 := Lib.hid (HK7.out.grown hgrow hrb (fun j hj => (HF7.out.row.lt j hj).1))
          have HR8 := Lib.hid hR8
          have HO8 : Hid (w8.ownsRow w.heap.size 31 3 v' (F ++ [((1 + (x : Int) : Int), (0 : Int), (1 + (q : Int) : Int))]).length (blkC (F ++ [((1 + (x : Int) : Int), (0 : Int), (1 + (q : Int) : Int))]))) := Lib.hid (by simpa using hown')
          have HSub : Hid ((k : Int) - 1 = ((k - 1 : Nat) : Int)) := Lib.hid (by omega)
          clear hown' hgrow hR8 HF7 HR7 HK7
          go_wp2_with fail
          rw [HSub.out]
          go_roundw
          case rel => exact ⟨k - 1, l, F ++ [((1 + (x : Int) : Int), (0 : Int), (1 + (q : Int) : Int))], rfl, by first | rfl | go_num, by omega, by simp; omega, Lib.hid (HR8.out.mono (by simp; omega)), HK8, HO8⟩
          case measure => simp [intOf]; omega
        · have hze : ((z : Int) == 0) = false := by simpa using hz0
          have c0 : w5.cell? ⟨g, 0, none⟩ = some (.int .i64 (1 + (x : Int))) := HT5.out.row.cellAt 0 (by omega)
          have c1 : w5.cell? ⟨g, 1, none⟩ = some (.int .i64 (0)) := HT5.out.row.cellAt 1 (by omega)
          have c2 : w5.cell? ⟨g, 2, none⟩ = some (.int .i64 (0)) := HT5.out.row.cellAt 2 (by omega)
          clear HT5
          go_wp2_with (at_builtin; go_must (refine wpList_append_blk rfl _ _ rfl w.heap.size _ F (1 + (x : Int)) (0) (0) HF5.out.row rfl rfl (by omega) hgw ?_))
          intro v' w8 hown' hgrow
          have hR8 := (HR5.out.grown hgrow (fun j hj => by have := (HF5.out.row.lt j hj).1; omega)).1
          have HK8 := Lib.hid (HK5.out.grown hgrow hrb (fun j hj => (HF5.out.row.lt j hj).1))
          have HR8 := Lib.hid hR8
          have HO8 : Hid (w8.ownsRow w.heap.size 31 3 v' (F ++ [((1 + (x : Int) : Int), (0 : Int), (0 : Int))]).length (blkC (F ++ [((1 + (x : Int) : Int), (0 : Int), (0 : Int))]))) := Lib.hid (by simpa using hown')
          have HSub : Hid ((k : Int) - 1 = ((k - 1 : Nat) : Int)) := Lib.hid (by omega)
          clear hown' hgrow hR8 HF5 HR5 HK5
          go_wp2_with fail
          rw [HSub.out]
          go_roundw
          case rel => exact ⟨k - 1, l, F ++ [((1 + (x : Int) : Int), (0 : Int), (0 : Int))], rfl, by first | rfl | go_num, by omega, by simp; omega, Lib.hid (HR8.out.mono (by simp; omega)), HK8, HO8⟩
          case measure => simp [intOf]; omega
    · obtain rfl : k = 0 := by omega
      go_wp2_with fail
      go_ret
      exact ⟨_, F, by omega, rfl, ownC_of HO.out, HR.out.mono (by omega), HK.out⟩
end Go.Proofs.YtgppljadkpoklaaDoor
