/- The layout of a formula, in the reference. -/
import Derived.Test.YtdloeiaaokhniaaFmLay
import Derived.Test.YtdloeiaaokhniaaFmValS
namespace Go.Proofs.Ytdloeiaaokhniaa
open Go.RowKit
open FL
set_option maxHeartbeats 2000000
set_option maxRecDepth 100000
set_option linter.unusedVariables false

theorem blkC_app : ∀ (A B : List Blk), blkC (A ++ B) = blkC A ++ blkC B
  | [], B => rfl
  | p :: r, B => by simp [blkC, blkC_app r B]
/-- One box appended to a row of the call's own. -/
theorem wpList_append_box {ops : Array Oper} {rest : List Oper} {o : Oper} {a : Act} {Q : Exit → Act → World → Prop} {w : World} (hgd : o.guard = none) (s x : Operand)
    (ho : o.op = .call { callee := .builtin .append, args := #[s, x], argTypes := #[43, 43] }) (B : Nat) (v : Value) (n : Nat) (F : List Value) (z y t : Int)
    (hown : w.ownsRow B 29 3 v n F) (hs : a.eval s = v) (hx : a.eval x = .slice (some ⟨w.heap.size, 0, none⟩) 1 1) (h63 : n ≤ 1000000) (hbase : B ≤ w.heap.size)
    (h : ∀ v' w', w'.ownsRow B 29 3 v' (n + 1) (F ++ [.int .i64 z, .int .i64 y, .int .i64 t]) → w.grownBy w' v.ownBlock → wpList Try.prog ops Q rest (a.put o.dst v') w') :
    wpList Try.prog ops Q (o :: rest) a (w.alloc (.cells #[.int .i64 z, .int .i64 y, .int .i64 t] 29)) := by
  obtain ⟨i0, hi, hz0, hz1, hz2⟩ := info_parts bxInfo
  refine wpList_append_own _ hgd s x 43 ho B 29 i0 (.agg #[.int .i64 0, .int .i64 0, .int .i64 0]) 3 24 Try.underlying43 hi hz0 hz1 hz2 rfl (by decide) v n _ hs (hown.alloc _) ⟨w.heap.size, 0, none⟩ 1 1 [.int .i64 z, .int .i64 y, .int .i64 t] hx rfl ?_ (by intro u hu; simp at hu; rcases hu with rfl | rfl | rfl <;> rfl) (by unfold maxLen; omega) (by omega) (by simp; omega) ?_
  · intro j u hj
    match j, hj with
    | 0, hj => simp at hj; subst hj; simp [go_sem]
    | 1, hj => simp at hj; subst hj; simp [go_sem]
    | 2, hj => simp at hj; subst hj; simp [go_sem]
    | j + 3, hj => simp at hj
  · intro v' w' h1 h2 _
    exact h v' w' h1 (grownBy_trans (World.grownBy_alloc w _ _) h2)

def LsOk (g : FL) : Prop := ∀ (k a b c : Int) (v : Value) (w : World) (d : Nat), Kids AllS w v g → okFm k a b c g d = true → d ≤ 6 →
  Calls Try.prog 40 #[fmV k a b c v] w fun e w' => e = .returned (layV (layFm k a b c g)) ∧ Below w.heap.size w w'

theorem ls_any (g : FL) (IH : ∀ g' : FL, g'.sz < g.sz → LsOk g') : LsOk g := by
  intro k a b c v w d h hok hd
  obtain ⟨ad, cap, rfl, hlc, hm, hcell⟩ := h.cells
  have HCe := Lib.hid hcell
  have HI := Lib.hid IH
  have hk : (k = 1 ∧ g.len = 0) ∨ (k = 2 ∧ g.len ≤ 6) ∨ (k = 3 ∧ g.len = 2) ∨ (k = 4 ∧ g.len = 2) ∨ (k = 5 ∧ g.len = 2) ∨ (k = 6 ∧ g.len = 1) := by
    unfold okFm at hok
    rw [Bool.and_eq_true] at hok
    rcases okNode_cases hok.1 with ⟨e, e2, _⟩ | ⟨_, _, _, _, h2⟩
    · exact .inl ⟨e, e2⟩
    · exact .inr h2
  have hBx : BxOk (layL g) := by
    rcases okFm_box hok hd with h | h
    · exact h
    · have h0 : g.len = 0 := by omega
      have : (layL g).length = 0 := by rw [layL_len]; exact h0
      rw [List.length_eq_zero_iff.1 this]
      exact ⟨by simp, fun p hp => by simp at hp⟩
  have HKid : Hid (∀ j k' x1 x2 x3 f r, FL.drop j g = cons k' x1 x2 x3 f r → okFm k' x1 x2 x3 f (d - 1) = true) := Lib.hid (fun j k' x1 x2 x3 f r e => by
    unfold okFm at hok
    rw [Bool.and_eq_true] at hok
    exact allV_kid hok.2 e)
  have hl6 := hBx.1
  rw [layL_len] at hl6
  have HLy : Hid (∀ j k' x1 x2 x3 f r, FL.drop j g = cons k' x1 x2 x3 f r → (layFm k' x1 x2 x3 f).1 = bl (layL g) j ∧ (layFm k' x1 x2 x3 f).2.1 = bb (layL g) j ∧ (layFm k' x1 x2 x3 f).2.2 = br (layL g) j) := Lib.hid (fun j k' x1 x2 x3 f r e => by
    unfold bl bb br; rw [layL_at j g e]; exact ⟨rfl, rfl, rfl⟩)
  have HSn := Lib.hid (fun j (hj : j < g.len) => (show blkC ((layL g).take (j + 1)) = blkC ((layL g).take j) ++ [.int .i64 (bl (layL g) j), .int .i64 (bb (layL g) j), .int .i64 (br (layL g) j)] by rw [take_snocB (layL g) j (by rw [layL_len]; exact hj), blkC_app]; rfl))
  have HEn : Hid ((layL g).take g.len = layL g) := Lib.hid (by rw [← layL_len]; exact List.take_length ..)
  have HRes : Hid (layFm k a b c g = layN k a b c (layL g)) := Lib.hid rfl
  have hLl : (layL g).length = g.len := layL_len g
  have HBx := Lib.hid hBx
  have HAt := Lib.hid (fun j (h : j < g.len) => FL.drop_at j g h)
  clear h hcell IH hBx hok
  unfold maxLen at hm
  have HA : Hid (Below w.heap.size w (((w.alloc (.cells #[.int .i64 k, .int .i64 a, .int .i64 b, .int .i64 c, .slice ad g.len cap] 32)).alloc (.cells #[.int .i64 0, .int .i64 0, .int .i64 0] 29)).alloc (.cells #[] 29))) := Lib.hid ((((Below.refl _ _).alloc (Nat.le_refl _) _).alloc (by simp) _).alloc (by simp; omega) _)
  have F0 := Lib.hid (((Five.new 32 w (.int .i64 k) (.int .i64 a) (.int .i64 b) (.int .i64 c) (.slice ad g.len cap)).alloc (.cells #[.int .i64 0, .int .i64 0, .int .i64 0] 29)).alloc (.cells #[] 29))
  have T0 := Lib.hid ((Three.new 29 (w.alloc (.cells #[.int .i64 k, .int .i64 a, .int .i64 b, .int .i64 c, .slice ad g.len cap] 32)) (.int .i64 0) (.int .i64 0) (.int .i64 0)).alloc (.cells #[] 29))
  have R0 : Hid ((((w.alloc (.cells #[.int .i64 k, .int .i64 a, .int .i64 b, .int .i64 c, .slice ad g.len cap] 32)).alloc (.cells #[.int .i64 0, .int .i64 0, .int .i64 0] 29)).alloc (.cells #[] 29)).ownsRow ((w.alloc (.cells #[.int .i64 k, .int .i64 a, .int .i64 b, .int .i64 c, .slice ad g.len cap] 32)).alloc (.cells #[.int .i64 0, .int .i64 0, .int .i64 0] 29)).heap.size 29 3 (.slice (some ⟨((w.alloc (.cells #[.int .i64 k, .int .i64 a, .int .i64 b, .int .i64 c, .slice ad g.len cap] 32)).alloc (.cells #[.int .i64 0, .int .i64 0, .int .i64 0] 29)).heap.size, 0, none⟩) 0 0) 0 (blkC ((layL g).take 0))) := Lib.hid (by rw [List.take_zero]; exact World.ownsRow_lit _ #[] 0 (Nat.le_refl _) (Nat.zero_le _) rfl)
  have hZ : Hid (w.heap.size + 1 + 1 < (((w.alloc (.cells #[.int .i64 k, .int .i64 a, .int .i64 b, .int .i64 c, .slice ad g.len cap] 32)).alloc (.cells #[.int .i64 0, .int .i64 0, .int .i64 0] 29)).alloc (.cells #[] 29)).heap.size) := Lib.hid (by simp)
  simp only [alloc_sz] at T0 R0
  unfold fmV
  generalize hg : g.len = n at *
  have HL := Lib.hid hg
  clear hg
  go_enter Try.func40, Try.ntmps40
  go_wp2_with fail
  generalize ((w.alloc (.cells #[.int .i64 k, .int .i64 a, .int .i64 b, .int .i64 c, .slice ad n cap] 32)).alloc (.cells #[.int .i64 0, .int .i64 0, .int .i64 0] 29)).alloc (.cells #[] 29) = W at *
  go_loopw [3, 4] (fun vs i wr => ∃ (j : Nat) (vl : Value), vl = vs ∧ j ≤ n ∧ i = .int .i64 j ∧ Hid (Below w.heap.size w wr) ∧ Hid (w.heap.size + 1 + 1 < wr.heap.size) ∧ Hid (Five 32 wr w.heap.size (.int .i64 k) (.int .i64 a) (.int .i64 b) (.int .i64 c) (.slice ad n cap)) ∧ Hid (Three 29 wr (w.heap.size + 1) (.int .i64 0) (.int .i64 0) (.int .i64 0)) ∧ Hid (wr.ownsRow (w.heap.size + 1 + 1) 29 3 vl j (blkC ((layL g).take j)))) (fun _ i _ => n - (intOf i).toNat)
  case atStart => exact ⟨0, _, rfl, by omega, rfl, HA, hZ, F0, T0, R0⟩
  case round =>
    clear R0 HA F0 T0 hZ
    obtain ⟨j, vl, rfl, hj, rfl, HB, hs, HF, HT, HM⟩ := hrel
    obtain ⟨s0, s1, s2, s3, s4⟩ := HF.out.cells
    by_cases hlt : j < n
    · obtain ⟨b', off, rfl, _, hb, hat⟩ := HCe.out (by omega)
      obtain ⟨k', x1, x2, x3, f, r, hd1, hd2⟩ := HAt.out j hlt
      obtain ⟨u, c0, c1, c2, c3, c4, hkk⟩ := hat j k' x1 x2 x3 f r hd1
      rw [← (bcell HB.out).1 _ _ hb] at c0 c1 c2 c3 c4
      have HS := Lib.hid (fun (w' : World) (hb' : Below w.heap.size w w') => HI.out f (sz_kid hd1) k' x1 x2 x3 u w' (d - 1) (hkk.below hb') (HKid.out j k' x1 x2 x3 f r hd1) (by omega))
      have HLj := Lib.hid (HLy.out j k' x1 x2 x3 f r hd1)
      have hSn := Lib.hid (HSn.out j hlt)
      obtain ⟨ad', cap', rfl, _⟩ := hkk.cells
      clear hat hkk hd1 hd2
      unfold fmV at HS
      go_wp2_with fail
      refine (HS.out _ HB.out).mono ?_
      rintro e w3 ⟨he, b3⟩
      have HB3 := Lib.hid (HB.out.trans (b3.mono HB.out.size))
      have HF3 := Lib.hid (HF.out.below b3)
      have HT3 := Lib.hid (HT.out.below b3)
      have hs3 : w.heap.size + 1 + 1 < w3.heap.size := Nat.lt_of_lt_of_le hs.out b3.size
      have hM3 : w3.ownsRow (w.heap.size + 1 + 1) 29 3 vl j (blkC ((layL g).take j)) := ((ownC_of HM.out).below b3).row
      obtain ⟨z0, z1, z2⟩ := HLj.out
      unfold layV at he
      rw [z0, z1, z2] at he
      subst he
      generalize bl (layL g) j = p0 at *
      generalize bb (layL g) j = p1 at *
      generalize br (layL g) j = p2 at *
      clear HB HF HT HM b3 c0 c1 c2 c3 c4 HS z0 z1 z2 HLj s0 s1 s2 s3 s4
      unfold bxV
      go_wp2_with (at_builtin; go_must (refine wpList_append_box rfl _ _ rfl (w.heap.size + 1 + 1) _ j (blkC ((layL g).take j)) p0 p1 p2 hM3 rfl rfl (by omega) (Nat.le_of_lt hs3) ?_))
      intro v' w4 h4 hg
      rw [← hSn.out] at h4
      have HM4 := Lib.hid h4
      have HB4 := Lib.hid (HB3.out.grown hg HB3.out.size (fun i hi => by have := (hM3.lt i hi).1; omega))
      have HF4 := Lib.hid (HF3.out.same (hg.block _ HF3.out.lt (fun e => by have := (hM3.lt _ e.symm).1; omega)))
      have HT4 := Lib.hid (HT3.out.same (hg.block _ HT3.out.lt (fun e => by have := (hM3.lt _ e.symm).1; omega)))
      have hs4 := Lib.hid (Nat.lt_of_lt_of_le hs3 hg.size)
      clear h4 hg hM3 HB3 HF3 HT3 hs3
      go_wp2_with fail
      go_roundw
      case rel => exact ⟨j + 1, _, rfl, by omega, by first | rfl | go_num, HB4, hs4, HF4, HT4, HM4⟩
      case measure => simp [intOf]; omega
    · obtain rfl : j = n := by omega
      have hEn := HEn.out
      rw [hEn] at HM
      have HSl : Hid (SlB wr vl (layL g)) := Lib.hid (by
        unfold SlB
        rw [hLl]
        exact OwnC.sl (ownC_of HM.out))
      have hsl := hs.out
      clear HM hEn HSn
      obtain ⟨t0, t1, t2⟩ := HT.out.cells
      obtain ⟨y0, y1, y2⟩ := HT.out.free
      obtain ⟨avl, cvl, rfl⟩ : ∃ a c, vl = .slice a j c := by obtain ⟨a, c, e, _⟩ := HSl.out; exact ⟨a, c, by rw [e, hLl]⟩
      have hs2 : w.heap.size + 1 < wr.heap.size := by omega
      have hs0 : w.heap.size < wr.heap.size := by omega
      by_cases hk1 : k = 1
      · subst hk1
        rw [layN_one] at HRes
        have HU := Lib.hid (((HT.out.set0 (.int .i64 a)).set1 (.int .i64 b)).set2 (.int .i64 c)).cells
        have HB6 := Lib.hid (((HB.out.setCell (p := ⟨w.heap.size + 1, 0, none⟩) (by simp only; omega) (.int .i64 a)).setCell (p := ⟨w.heap.size + 1, 1, none⟩) (by simp only; omega) (.int .i64 b)).setCell (p := ⟨w.heap.size + 1, 2, none⟩) (by simp only; omega) (.int .i64 c))
        clear hLl hk
        go_wp2_with fail
        obtain ⟨g0, g1, g2⟩ := HU.out
        exact bodyPost_ret (v := bxV a b c) (by simp [results, Try.results40, go_sem, bxV, g0, g1, g2]) rfl ⟨by rw [HRes.out]; rfl, HB6.out⟩
      · have e1 : (k == 1) = false := by rw [beq_eq_false_iff_ne]; exact hk1
        by_cases hk2 : k = 2
        · subst hk2
          rw [layN_row] at HRes
          clear hLl hk
          go_wp2_with fail
          refine (row_any _ (layL g) wr HSl.out HBx.out).mono ?_
          rintro e w5 ⟨rfl, b5⟩
          have HB5 := Lib.hid (HB.out.trans (b5.mono HB.out.size))
          have HT5 := Lib.hid (HT.out.below b5)
          clear b5 HB HT HF s0 s1 s2 s3 s4 t0 t1 t2 y0 y1 y2
          generalize bxW (layL g) = p0 at *
          generalize bxH (layL g) = p1 at *
          generalize bxD (layL g) = p2 at *
          obtain ⟨t0, t1, t2⟩ := HT5.out.cells
          obtain ⟨y0, y1, y2⟩ := HT5.out.free
          have HU := Lib.hid (((HT5.out.set0 (.int .i64 p0)).set1 (.int .i64 p1)).set2 (.int .i64 p2)).cells
          have HB6 := Lib.hid (((HB5.out.setCell (p := ⟨w.heap.size + 1, 0, none⟩) (by simp only; omega) (.int .i64 p0)).setCell (p := ⟨w.heap.size + 1, 1, none⟩) (by simp only; omega) (.int .i64 p1)).setCell (p := ⟨w.heap.size + 1, 2, none⟩) (by simp only; omega) (.int .i64 p2))
          unfold bxV
          go_wp2_with fail
          obtain ⟨g0, g1, g2⟩ := HU.out
          exact bodyPost_ret (v := bxV p0 p1 p2) (by simp [results, Try.results40, go_sem, bxV, g0, g1, g2]) rfl ⟨by rw [HRes.out]; rfl, HB6.out⟩
        · have e2 : (k == 2) = false := by rw [beq_eq_false_iff_ne]; exact hk2
          have hj1 : 1 ≤ j := by omega
          obtain ⟨-, b', off, rfl, hb, hc⟩ := HSl.out.cells (n := j) (by omega)
          have hcv : j ≤ cvl ∧ cvl ≤ maxLen := by obtain ⟨_, _, e, h1, h2, _⟩ := HSl.out; injection e with _ _ e; subst e; rw [hLl] at h1; exact ⟨h1, h2⟩
          unfold maxLen at hcv
          obtain ⟨c0, c1, c2⟩ := hc 0 (by omega)
          simp only [Nat.zero_mul, Nat.add_zero] at c0 c1 c2
          obtain ⟨q0, q1, q2⟩ := HBx.out.at 0 (by omega)
          have hx0 : (0 : Int) < (j : Int) := by omega
          have hx0n : 0 < j := by omega
          by_cases hk6 : k = 6
          · subst hk6
            obtain ⟨x, hx⟩ := len_one (hLl.trans (show j = 1 by omega))
            rw [hx] at c0 c1 c2 q0 q1 q2 HRes
            rw [layN_root] at HRes
            change wr.cell? _ = some (.int .i64 x.1) at c0
            change wr.cell? _ = some (.int .i64 x.2.1) at c1
            change wr.cell? _ = some (.int .i64 x.2.2) at c2
            change 0 ≤ x.1 ∧ x.1 ≤ 4665600 at q0
            change 0 ≤ x.2.1 ∧ x.2.1 ≤ 4665600 at q1
            change 0 ≤ x.2.2 ∧ x.2.2 ≤ 4665600 at q2
            obtain ⟨p0, p1, p2⟩ := x
            simp only at c0 c1 c2 q0 q1 q2 HRes
            have i0 : IntKind.i64.wrap (p0 + 3) = p0 + 3 := IntWalk.i64_in _ (by omega)
            have i1 : IntKind.i64.wrap (p1 + 1) = p1 + 1 := IntWalk.i64_in _ (by omega)
            have i2 : IntKind.i64.wrap (p1 + 1 + 1) = p1 + 1 + 1 := IntWalk.i64_in _ (by omega)
            rw [show p1 + 2 = p1 + 1 + 1 by omega] at HRes
            clear hc hx HSl hk hLl
            go_wp2_with fail
            go_still_tail 15, (by kernel_rfl)
            have HBd : Hid (Below w.heap.size w wr.drew) := Lib.hid (HB.out.trans ⟨rfl, rfl, rfl, Nat.le_refl _, fun _ _ => rfl⟩)
            have HTd : Hid (Three 29 wr.drew (w.heap.size + 1) (.int .i64 0) (.int .i64 0) (.int .i64 0)) := Lib.hid (HT.out.same rfl)
            change wpList _ _ _ _ _ wr.drew
            clear s0 s1 s2 s3 s4 t0 t1 t2 y0 y1 y2 HB HT HF
            generalize wr.drew = w2 at *
            obtain ⟨t0, t1, t2⟩ := HTd.out.cells
            obtain ⟨y0, y1, y2⟩ := HTd.out.free
            have HU := Lib.hid (((HTd.out.set0 (.int .i64 (p0 + 3))).set1 (.int .i64 (p1 + 1 + 1))).set2 (.int .i64 (p2))).cells
            have HB6 := Lib.hid (((HBd.out.setCell (p := ⟨w.heap.size + 1, 0, none⟩) (by simp only; omega) (.int .i64 (p0 + 3))).setCell (p := ⟨w.heap.size + 1, 1, none⟩) (by simp only; omega) (.int .i64 (p1 + 1 + 1))).setCell (p := ⟨w.heap.size + 1, 2, none⟩) (by simp only; omega) (.int .i64 (p2)))
            go_wp2_with fail
            obtain ⟨g0, g1, g2⟩ := HU.out
            exact bodyPost_ret (v := bxV (p0 + 3) (p1 + 1 + 1) (p2)) (by simp [results, Try.results40, go_sem, bxV, g0, g1, g2]) rfl ⟨by rw [HRes.out]; rfl, HB6.out⟩
          · have e6 : (k == 6) = false := by rw [beq_eq_false_iff_ne]; exact hk6
            have hj2 : 2 ≤ j := by omega
            obtain ⟨d0, d1, d2⟩ := hc 1 (by omega)
            simp only [Nat.one_mul] at d0 d1 d2
            obtain ⟨q3, q4, q5⟩ := HBx.out.at 1 (by omega)
            obtain ⟨x, y, hx⟩ := len_two (hLl.trans (show j = 2 by omega))
            rw [hx] at c0 c1 c2 q0 q1 q2 HRes d0 d1 d2 q3 q4 q5
            change wr.cell? _ = some (.int .i64 x.1) at c0
            change wr.cell? _ = some (.int .i64 x.2.1) at c1
            change wr.cell? _ = some (.int .i64 x.2.2) at c2
            change 0 ≤ x.1 ∧ x.1 ≤ 4665600 at q0
            change 0 ≤ x.2.1 ∧ x.2.1 ≤ 4665600 at q1
            change 0 ≤ x.2.2 ∧ x.2.2 ≤ 4665600 at q2
            change wr.cell? _ = some (.int .i64 y.1) at d0
            change wr.cell? _ = some (.int .i64 y.2.1) at d1
            change wr.cell? _ = some (.int .i64 y.2.2) at d2
            change 0 ≤ y.1 ∧ y.1 ≤ 4665600 at q3
            change 0 ≤ y.2.1 ∧ y.2.1 ≤ 4665600 at q4
            change 0 ≤ y.2.2 ∧ y.2.2 ≤ 4665600 at q5
            obtain ⟨p0, p1, p2⟩ := x
            obtain ⟨r0, r1, r2⟩ := y
            simp only at c0 c1 c2 q0 q1 q2 d0 d1 d2 q3 q4 q5
            have hx0' : decide ((0 : Int) < (j : Int)) = true := decide_eq_true (by omega)
            have hx1 : (1 : Int) < (j : Int) := by omega
            have hx1n : 1 < j := by omega
            have hx1' : decide ((1 : Int) < (j : Int)) = true := decide_eq_true (by omega)
            by_cases hk4 : k = 4
            · subst hk4
              obtain ⟨u, hu⟩ : ∃ u, (if 3 < p1 - 3 + r2 then p1 - 3 + r2 else 3) = u := ⟨_, rfl⟩
              have hub : 3 ≤ u ∧ u ≤ 9331200 := by rw [← hu]; split <;> omega
              obtain ⟨m1, hm1⟩ : ∃ m, (if p1 < u + r1 then u + r1 else p1) = m := ⟨_, rfl⟩
              obtain ⟨m2, hm2⟩ : ∃ m, (if p2 < r2 - u then r2 - u else p2) = m := ⟨_, rfl⟩
              rw [layN_above] at HRes
              simp only at HRes
              rw [max_if 3, hu, max_if, hm1, max_if, hm2] at HRes
              have i0 : IntKind.i64.wrap (p1 - 3) = p1 - 3 := IntWalk.i64_in _ (by omega)
              have i1 : IntKind.i64.wrap (p1 - 3 + r2) = p1 - 3 + r2 := IntWalk.i64_in _ (by omega)
              have i2 : IntKind.i64.wrap (p0 + r0) = p0 + r0 := IntWalk.i64_in _ (by omega)
              have i3 : IntKind.i64.wrap (u + r1) = u + r1 := IntWalk.i64_in _ (by omega)
              have i4 : IntKind.i64.wrap (r2 - u) = r2 - u := IntWalk.i64_in _ (by omega)
              clear hc hx HSl hk hLl
              go_wp2_with fail
              go_quiet (fail)
              go_wp2_with fail
              have HBq : Hid (Below w.heap.size w (wr.drewN nq)) := Lib.hid (HB.out.trans ⟨rfl, rfl, rfl, Nat.le_refl _, fun _ _ => rfl⟩)
              have HTq : Hid (Three 29 (wr.drewN nq) (w.heap.size + 1) (.int .i64 0) (.int .i64 0) (.int .i64 0)) := Lib.hid (HT.out.same rfl)
              have c0 : (wr.drewN nq).cell? ⟨b', off, none⟩ = some (.int .i64 p0) := c0
              have c1 : (wr.drewN nq).cell? ⟨b', off + 1, none⟩ = some (.int .i64 p1) := c1
              have c2 : (wr.drewN nq).cell? ⟨b', off + 2, none⟩ = some (.int .i64 p2) := c2
              have d0 : (wr.drewN nq).cell? ⟨b', off + 3, none⟩ = some (.int .i64 r0) := d0
              have d1 : (wr.drewN nq).cell? ⟨b', off + 3 + 1, none⟩ = some (.int .i64 r1) := d1
              have d2 : (wr.drewN nq).cell? ⟨b', off + 3 + 2, none⟩ = some (.int .i64 r2) := d2
              generalize wr.drewN nq = w7 at *
              go_still_tail 31, (by kernel_rfl)
              have HBd : Hid (Below w.heap.size w w7.drew) := Lib.hid (HBq.out.trans ⟨rfl, rfl, rfl, Nat.le_refl _, fun _ _ => rfl⟩)
              have HTd : Hid (Three 29 w7.drew (w.heap.size + 1) (.int .i64 0) (.int .i64 0) (.int .i64 0)) := Lib.hid (HTq.out.same rfl)
              change wpList _ _ _ _ _ w7.drew
              clear s0 s1 s2 s3 s4 t0 t1 t2 y0 y1 y2 HB HT HF
              generalize w7.drew = w2 at *
              obtain ⟨t0, t1, t2⟩ := HTd.out.cells
              obtain ⟨y0, y1, y2⟩ := HTd.out.free
              have HU := Lib.hid (((HTd.out.set0 (.int .i64 (p0 + r0))).set1 (.int .i64 (m1))).set2 (.int .i64 (m2))).cells
              have HB6 := Lib.hid (((HBd.out.setCell (p := ⟨w.heap.size + 1, 0, none⟩) (by simp only; omega) (.int .i64 (p0 + r0))).setCell (p := ⟨w.heap.size + 1, 1, none⟩) (by simp only; omega) (.int .i64 (m1))).setCell (p := ⟨w.heap.size + 1, 2, none⟩) (by simp only; omega) (.int .i64 (m2)))
              go_wp2_with fail
              obtain ⟨g0, g1, g2⟩ := HU.out
              exact bodyPost_ret (v := bxV (p0 + r0) (m1) (m2)) (by simp [results, Try.results40, go_sem, bxV, g0, g1, g2]) rfl ⟨by rw [HRes.out]; rfl, HB6.out⟩
            · have e4 : (k == 4) = false := by rw [beq_eq_false_iff_ne]; exact hk4
              by_cases hk5 : k = 5
              · subst hk5
                obtain ⟨u, hu⟩ : ∃ u, (if 3 < p2 + r1 - 3 then p2 + r1 - 3 else 3) = u := ⟨_, rfl⟩
                have hub : 3 ≤ u ∧ u ≤ 9331200 := by rw [← hu]; split <;> omega
                obtain ⟨m1, hm1⟩ : ∃ m, (if p1 < r1 - u then r1 - u else p1) = m := ⟨_, rfl⟩
                obtain ⟨m2, hm2⟩ : ∃ m, (if p2 < r2 + u then r2 + u else p2) = m := ⟨_, rfl⟩
                rw [layN_below] at HRes
                simp only at HRes
                rw [max_if 3, hu, max_if, hm1, max_if, Int.add_comm u r2, hm2] at HRes
                have i0 : IntKind.i64.wrap (p2 + r1) = p2 + r1 := IntWalk.i64_in _ (by omega)
                have i1 : IntKind.i64.wrap (p2 + r1 - 3) = p2 + r1 - 3 := IntWalk.i64_in _ (by omega)
                have i2 : IntKind.i64.wrap (p0 + r0) = p0 + r0 := IntWalk.i64_in _ (by omega)
                have i3 : IntKind.i64.wrap (r2 + u) = r2 + u := IntWalk.i64_in _ (by omega)
                have i4 : IntKind.i64.wrap (r1 - u) = r1 - u := IntWalk.i64_in _ (by omega)
                clear hc hx HSl hk hLl
                go_wp2_with fail
                go_quiet (fail)
                go_wp2_with fail
                have HBq : Hid (Below w.heap.size w (wr.drewN nq)) := Lib.hid (HB.out.trans ⟨rfl, rfl, rfl, Nat.le_refl _, fun _ _ => rfl⟩)
                have HTq : Hid (Three 29 (wr.drewN nq) (w.heap.size + 1) (.int .i64 0) (.int .i64 0) (.int .i64 0)) := Lib.hid (HT.out.same rfl)
                have c0 : (wr.drewN nq).cell? ⟨b', off, none⟩ = some (.int .i64 p0) := c0
                have c1 : (wr.drewN nq).cell? ⟨b', off + 1, none⟩ = some (.int .i64 p1) := c1
                have c2 : (wr.drewN nq).cell? ⟨b', off + 2, none⟩ = some (.int .i64 p2) := c2
                have d0 : (wr.drewN nq).cell? ⟨b', off + 3, none⟩ = some (.int .i64 r0) := d0
                have d1 : (wr.drewN nq).cell? ⟨b', off + 3 + 1, none⟩ = some (.int .i64 r1) := d1
                have d2 : (wr.drewN nq).cell? ⟨b', off + 3 + 2, none⟩ = some (.int .i64 r2) := d2
                generalize wr.drewN nq = w7 at *
                go_still_tail 31, (by kernel_rfl)
                have HBd : Hid (Below w.heap.size w w7.drew) := Lib.hid (HBq.out.trans ⟨rfl, rfl, rfl, Nat.le_refl _, fun _ _ => rfl⟩)
                have HTd : Hid (Three 29 w7.drew (w.heap.size + 1) (.int .i64 0) (.int .i64 0) (.int .i64 0)) := Lib.hid (HTq.out.same rfl)
                change wpList _ _ _ _ _ w7.drew
                clear s0 s1 s2 s3 s4 t0 t1 t2 y0 y1 y2 HB HT HF
                generalize w7.drew = w2 at *
                obtain ⟨t0, t1, t2⟩ := HTd.out.cells
                obtain ⟨y0, y1, y2⟩ := HTd.out.free
                have HU := Lib.hid (((HTd.out.set0 (.int .i64 (p0 + r0))).set1 (.int .i64 (m1))).set2 (.int .i64 (m2))).cells
                have HB6 := Lib.hid (((HBd.out.setCell (p := ⟨w.heap.size + 1, 0, none⟩) (by simp only; omega) (.int .i64 (p0 + r0))).setCell (p := ⟨w.heap.size + 1, 1, none⟩) (by simp only; omega) (.int .i64 (m1))).setCell (p := ⟨w.heap.size + 1, 2, none⟩) (by simp only; omega) (.int .i64 (m2)))
                go_wp2_with fail
                obtain ⟨g0, g1, g2⟩ := HU.out
                exact bodyPost_ret (v := bxV (p0 + r0) (m1) (m2)) (by simp [results, Try.results40, go_sem, bxV, g0, g1, g2]) rfl ⟨by rw [HRes.out]; rfl, HB6.out⟩
              · have e5 : (k == 5) = false := by rw [beq_eq_false_iff_ne]; exact hk5
                have hk3 : k = 3 := by omega
                subst hk3
                obtain ⟨m0, hm0⟩ : ∃ m, (if p0 < r0 then r0 else p0) = m := ⟨_, rfl⟩
                rw [layN_frac] at HRes
                simp only at HRes
                rw [max_if p0, hm0, max_if 0] at HRes
                have i0 : IntKind.i64.wrap (5 + p1) = 5 + p1 := IntWalk.i64_in _ (by omega)
                have i1 : IntKind.i64.wrap (5 + p1 + p2) = 5 + p1 + p2 := IntWalk.i64_in _ (by omega)
                have i2 : IntKind.i64.wrap (1 + r1) = 1 + r1 := IntWalk.i64_in _ (by omega)
                have i3 : IntKind.i64.wrap (1 + r1 + r2) = 1 + r1 + r2 := IntWalk.i64_in _ (by omega)
                have i4 : IntKind.i64.wrap (1 + r1 + r2 - 3) = 1 + r1 + r2 - 3 := IntWalk.i64_in _ (by omega)
                by_cases hpos : 3 < 1 + r1 + r2
                · rw [if_pos (show 0 < 1 + r1 + r2 - 3 by omega)] at HRes
                  clear hc hx HSl hk hLl
                  have HU := Lib.hid (((((HT.out.set0 (.int .i64 (m0))).set1 (.int .i64 (5 + p1 + p2))).set2 (.int .i64 (1 + r1 + r2 - 3))).alloc (.cells #[.int .i64 p0, .int .i64 p1, .int .i64 p2] 29)).alloc (.cells #[.int .i64 r0, .int .i64 r1, .int .i64 r2] 29)).cells
                  have HB6 := Lib.hid (((((HB.out.setCell (p := ⟨w.heap.size + 1, 0, none⟩) (by simp only; omega) (.int .i64 (m0))).setCell (p := ⟨w.heap.size + 1, 1, none⟩) (by simp only; omega) (.int .i64 (5 + p1 + p2))).setCell (p := ⟨w.heap.size + 1, 2, none⟩) (by simp only; omega) (.int .i64 (1 + r1 + r2 - 3))).alloc (Nat.le_trans HB.out.size (by simp [World.setCell])) (.cells #[.int .i64 p0, .int .i64 p1, .int .i64 p2] 29)).alloc (Nat.le_trans HB.out.size (by simp [World.setCell])) (.cells #[.int .i64 r0, .int .i64 r1, .int .i64 r2] 29))
                  go_wp2_with fail
                  obtain ⟨g0, g1, g2⟩ := HU.out
                  exact bodyPost_ret (v := bxV (m0) (5 + p1 + p2) (1 + r1 + r2 - 3)) (by simp [results, Try.results40, go_sem, bxV, g0, g1, g2]) rfl ⟨by rw [HRes.out]; rfl, HB6.out⟩
                · rw [if_neg (show ¬ 0 < 1 + r1 + r2 - 3 by omega)] at HRes
                  clear hc hx HSl hk hLl
                  have HU := Lib.hid (((((HT.out.set0 (.int .i64 (m0))).set1 (.int .i64 (5 + p1 + p2))).set2 (.int .i64 (0))).alloc (.cells #[.int .i64 p0, .int .i64 p1, .int .i64 p2] 29)).alloc (.cells #[.int .i64 r0, .int .i64 r1, .int .i64 r2] 29)).cells
                  have HB6 := Lib.hid (((((HB.out.setCell (p := ⟨w.heap.size + 1, 0, none⟩) (by simp only; omega) (.int .i64 (m0))).setCell (p := ⟨w.heap.size + 1, 1, none⟩) (by simp only; omega) (.int .i64 (5 + p1 + p2))).setCell (p := ⟨w.heap.size + 1, 2, none⟩) (by simp only; omega) (.int .i64 (0))).alloc (Nat.le_trans HB.out.size (by simp [World.setCell])) (.cells #[.int .i64 p0, .int .i64 p1, .int .i64 p2] 29)).alloc (Nat.le_trans HB.out.size (by simp [World.setCell])) (.cells #[.int .i64 r0, .int .i64 r1, .int .i64 r2] 29))
                  go_wp2_with fail
                  obtain ⟨g0, g1, g2⟩ := HU.out
                  exact bodyPost_ret (v := bxV (m0) (5 + p1 + p2) (0)) (by simp [results, Try.results40, go_sem, bxV, g0, g1, g2]) rfl ⟨by rw [HRes.out]; rfl, HB6.out⟩
theorem lsOk_all : ∀ (n : Nat) (g : FL), g.sz < n → LsOk g := by
  intro n
  induction n with
  | zero => intro g h; omega
  | succ n ih => intro g h; exact ls_any g (fun g' h' => ih g' (by omega))
end Go.Proofs.Ytdloeiaaokhniaa
