/- Drawn figures and spaces. -/
import Derived.Test.YtfiogefigjnaiaaFigMem
import Derived.Test.YtfiogefigjnaiaaDrawCols2
namespace Go.Proofs.Ytfiogefigjnaiaa
open Go.RowKit
set_option maxHeartbeats 2000000
set_option maxRecDepth 100000

/-- One figure appended to a row of the call's own. -/
theorem wpList_append_fig {ops : Array Oper} {rest : List Oper} {o : Oper} {a : Act} {Q : Exit → Act → World → Prop} {w : World} (hgd : o.guard = none) (s x : Operand)
    (ho : o.op = .call { callee := .builtin .append, args := #[s, x], argTypes := #[26, 26] }) (B : Nat) (v : Value) (F : List (Int × Int)) (z y : Int)
    (hown : w.ownsRow B 46 2 v F.length (figC F)) (hs : a.eval s = v) (hx : a.eval x = .slice (some ⟨w.heap.size, 0, none⟩) 1 1) (h63 : F.length ≤ 1000000000) (hbase : B ≤ w.heap.size)
    (h : ∀ v' w', w'.ownsRow B 46 2 v' (F.length + 1) (figC (F ++ [(z, y)])) → w.grownBy w' v.ownBlock → wpList Try.prog ops Q rest (a.put o.dst v') w') :
    wpList Try.prog ops Q (o :: rest) a (w.alloc (.cells #[.int .i64 z, .int .i64 y] 46)) := by
  obtain ⟨i0, hi, hz0, hz1, hz2⟩ := info_parts figInfo
  refine wpList_append_own _ hgd s x 26 ho B 46 i0 (.agg #[.int .i64 0, .int .i64 0]) 2 16 Try.underlying26 hi hz0 hz1 hz2 rfl (by decide) v F.length _ hs (hown.alloc _) ⟨w.heap.size, 0, none⟩ 1 1 [.int .i64 z, .int .i64 y] hx rfl ?_ (by intro u hu; simp at hu; rcases hu with rfl | rfl <;> rfl) (by unfold maxLen; omega) (by omega) (by simp; omega) ?_
  · intro j u hj
    match j, hj with
    | 0, hj => simp at hj; subst hj; simp [go_sem]
    | 1, hj => simp at hj; subst hj; simp [go_sem]
    | j + 2, hj => simp at hj
  · intro v' w' h1 h2 _
    refine h v' w' (by rw [figC_app]; exact h1) (grownBy_trans (World.grownBy_alloc w _ _) h2)

theorem ownsC_keeps {T : TypeId} {m rb B n : Nat} {w w' : World} {v : Value} {xs : List Value} (h : w.ownsRow B T m v n xs) (hk : Keeps rb w w') (hB : rb < B) : w'.ownsRow B T m v n xs := owns_keeps h hk hB
/-- A short list of figures, drawn. -/
def DrewF (rb P m : Nat) (w : World) (e : Ending) (w' : World) : Prop := ∃ (v : Value) (F : List (Int × Int)), F.length ≤ m ∧ e = .returned v ∧ OwnF w.heap.size w'.heap.size w' v F ∧ Rdr w' rb P ∧ Keeps rb w w'

theorem randomFigures_any (rb P : Nat) (w : World) (hP : P ≤ 800000) (hR : Rdr w rb P) :
    Calls Try.prog 40 #[.pointer (some ⟨rb, 0, none⟩)] w (DrewF rb (P + 20) 5 w) := by
  have hrb := hR.lies
  have HO : Hid ((w.alloc (.cells #[] 46)).ownsRow w.heap.size 46 2 (.slice (some ⟨w.heap.size, 0, none⟩) 0 0) 0 (figC [])) :=
    World.ownsRow_lit w #[] 0 (Nat.le_refl _) (Nat.zero_le _) rfl
  have hb2 : Below w.heap.size w (w.alloc (.cells #[] 46)) := (Below.refl _ _).alloc (Nat.le_refl _) _
  have hR2 := hR.below hb2
  have HK2 := Lib.hid (Keeps.of_below hrb hb2)
  clear hb2 hR
  go_enter Try.func40, Try.ntmps40
  go_wp2_with fail
  refine (pick_pos rb P 6 _ (by omega) (by omega) hR2).mono ?_
  rintro e w2 ⟨c, hc, rfl, hR3, hK3⟩
  have HO3 := Lib.hid (ownsC_keeps HO.out hK3 hrb)
  have HK3 := Lib.hid (HK2.out.trans hK3)
  have HR3 := Lib.hid hR3
  clear HO HK2 hK3 hR3 hR2
  go_wp2_with fail
  go_loopw [3, 4, 5] (fun v p n wr => ∃ (k pg : Nat) (F : List (Int × Int)), n = .int .i64 k ∧ p = .int .i64 pg ∧ pg ≤ 11 ∧ k + F.length ≤ 5 ∧ Hid (Rdr wr rb (P + 1 + 2 * F.length)) ∧ Hid (Keeps rb w wr) ∧ Hid (wr.ownsRow w.heap.size 46 2 v F.length (figC F))) (fun _ _ n _ => (intOf n).toNat)
  case atStart => exact ⟨c, 0, [], rfl, rfl, by omega, by simp; omega, HR3, HK3, HO3⟩
  case round =>
    clear HO3 HK3 HR3 hc
    obtain ⟨k, pg, F, rfl, rfl, hpg, hkl, HR, HK, HO⟩ := hrel
    by_cases hk : 0 < k
    · go_wp2_with fail
      refine (pick_pos rb (P + 1 + 2 * F.length) 3 _ (by omega) (by omega) HR.out).mono ?_
      rintro e w3 ⟨x, hx, rfl, hR3, hK3⟩
      have HO3 := Lib.hid (ownsC_keeps HO.out hK3 hrb)
      have HK3 := Lib.hid (HK.out.trans hK3)
      have HR3 := Lib.hid hR3
      clear hK3 hR3 HO HK HR
      go_wp2_with fail
      rw [show min ((pg : Int) + (x : Int)) 11 = ((min (pg + x) 11 : Nat) : Int) by omega]
      have hp2 : min (pg + x) 11 ≤ 11 := by omega
      generalize min (pg + x) 11 = p2 at *
      refine (pick_pos rb (P + 1 + 2 * F.length + 1) 9 _ (by omega) (by omega) HR3.out).mono ?_
      rintro e w4 ⟨y, hy, rfl, hR4, hK4⟩
      have hown := ownsC_keeps HO3.out hK4 hrb
      have HK4 := Lib.hid (HK3.out.trans hK4)
      have hl4 : w.heap.size ≤ w4.heap.size := Nat.le_trans HK3.out.below.size hK4.below.size
      have HR4 := Lib.hid hR4
      have HOw := Lib.hid hown
      clear hK4 hR4 HO3 HK3 HR3 hown
      have hFl : F.length ≤ 5 := by omega
      go_wp2_with (at_builtin; go_must (refine wpList_append_fig rfl _ _ rfl w.heap.size _ F (1 + (y : Int)) (p2 : Int) HOw.out rfl rfl (by omega) hl4 ?_))
      intro v' w5 hown' hgrow
      have hR5 := (HR4.out.grown hgrow (fun j hj => by have := (HOw.out.lt j hj).1; omega)).1
      have HK5 := Lib.hid (HK4.out.grown hgrow hrb (fun j hj => (HOw.out.lt j hj).1))
      have HR5 := Lib.hid hR5
      have HO5 : Hid (w5.ownsRow w.heap.size 46 2 v' (F ++ [((1 : Int) + (y : Int), (p2 : Int))]).length (figC (F ++ [((1 : Int) + (y : Int), (p2 : Int))]))) := Lib.hid (by simpa using hown')
      have HSub : Hid ((k : Int) - 1 = ((k - 1 : Nat) : Int)) := Lib.hid (by omega)
      clear hown' hgrow hR5 HK4 HR4 HOw
      go_wp2_with fail
      rw [HSub.out]
      go_roundw
      case rel => exact ⟨k - 1, p2, F ++ [((1 : Int) + (y : Int), (p2 : Int))], rfl, rfl, hp2, by simp; omega, Lib.hid (HR5.out.mono (by simp; omega)), HK5, HO5⟩
      case measure => simp [intOf]; omega
    · obtain rfl : k = 0 := by omega
      go_wp2_with fail
      go_ret
      exact ⟨_, F, by omega, rfl, ownC_of HO.out, HR.out.mono (by omega), HK.out⟩

theorem fig_store {B g n cap : Nat} {w : World} {F : List (Int × Int)} (h : w.ownsRow B 46 2 (.slice (some ⟨g, 0, none⟩) n cap) n (figC F)) (hn : F.length = n) (hp : 0 < n) (z : Int) :
    ((w.setCell ⟨g, 0, none⟩ (.int .i64 z)).ownsRow B 46 2 (.slice (some ⟨g, 0, none⟩) n cap) n (figC (F.set 0 (z, fp F 0))) ∧ w.grownBy (w.setCell ⟨g, 0, none⟩ (.int .i64 z)) (some g)) ∧
    ((w.setCell ⟨g, 1, none⟩ (.int .i64 z)).ownsRow B 46 2 (.slice (some ⟨g, 0, none⟩) n cap) n (figC (F.set 0 (fh F 0, z))) ∧ w.grownBy (w.setCell ⟨g, 1, none⟩ (.int .i64 z)) (some g)) := by
  cases F with
  | nil => simp at hn; omega
  | cons p r =>
    have h0 := h.stored 0 (.int .i64 z)
    have h1 := h.stored 1 (.int .i64 z)
    simp only [figC, List.set_cons_zero, List.set_cons_succ] at h0 h1
    refine ⟨⟨?_, h0.2⟩, ⟨?_, h1.2⟩⟩
    · simpa [figC, fp, List.set_cons_zero] using h0.1
    · simpa [figC, fh, List.set_cons_zero] using h1.1

theorem anyFigures_any (rb P : Nat) (w : World) (hP : P ≤ 800000) (hR : Rdr w rb P) :
    Calls Try.prog 35 #[.pointer (some ⟨rb, 0, none⟩)] w (DrewF rb (P + 22) 5 w) := by
  have hrb := hR.lies
  go_enter Try.func35, Try.ntmps35
  go_wp2_with fail
  refine (randomFigures_any rb P _ hP hR).mono ?_
  rintro e w2 ⟨v, F, hF, rfl, o2, hR2, hK2⟩
  have HO := Lib.hid o2
  have HR2 := Lib.hid hR2
  have HK2 := Lib.hid hK2
  clear hR hR2 hK2
  rcases (OwnC.row o2).2 with ⟨rfl, h0⟩ | ⟨g, cp, cur, rfl, hg1, hg2, hg3, hg4, _⟩
  · obtain rfl : F = [] := List.length_eq_zero_iff.1 h0
    clear o2 h0
    go_wp2_with fail
    go_ret
    exact ⟨_, [], by simp, rfl, HO.out, HR2.out.mono (by omega), HK2.out⟩
  · clear hg2 o2
    by_cases hn : F.length = 0
    · obtain rfl : F = [] := List.length_eq_zero_iff.1 hn
      clear hn
      go_wp2_with fail
      go_ret
      exact ⟨_, [], by simp, rfl, HO.out, HR2.out.mono (by omega), HK2.out⟩
    · have hd : decide ((0 : Int) < (F.length : Int)) = true := by simp; omega
      have hpos : 0 < F.length := by omega
      go_wp2_with fail
      refine (pick_pos rb (P + 20) 16 _ (by omega) (by omega) HR2.out).mono ?_
      rintro e w3 ⟨x, hx, rfl, hR3, hK3⟩
      have HO3 : Hid (w3.ownsRow w.heap.size 46 2 (.slice (some ⟨g, 0, none⟩) F.length cp) F.length (figC F)) := Lib.hid (ownsC_keeps (OwnC.row HO.out) hK3 hrb)
      have HK3 := Lib.hid (HK2.out.trans hK3)
      have HR3 := Lib.hid hR3
      clear hK3 hR3 HO HK2 HR2 hd hn
      by_cases hx0 : x = 0
      · subst hx0
        go_wp2_with fail
        refine (one_lit rb (P + 20 + 1) [0, 1001] w3 _ (by simp) (by simp) (by omega) HR3.out).mono ?_
        rintro e w4 ⟨z, hz, rfl, hR4, hK4⟩
        have hown := ownsC_keeps HO3.out hK4 hrb
        have HK4 := Lib.hid (HK3.out.trans hK4)
        have HR4 := Lib.hid hR4
        have hA := figC_at F 0 hpos
        have c0 : w4.cell? ⟨g, 0, none⟩ = some (.int .i64 (fh F 0)) := (hown.cellAt 0 (by omega)).trans hA.1
        have f0 : w4.frozen? ⟨g, 0, none⟩ = false := hown.frozenAt 0
        have HS := Lib.hid (fig_store hown rfl hpos z).1
        clear hz hK4 hR4 hown HK3 HR3 HO3 hA
        generalize fh F 0 = y0 at *
        go_wp2_with fail
        go_ret
        have hR5 := (HR4.out.grown HS.out.2 (fun j hj => by injection hj with hj; omega)).1
        refine ⟨_, F.set 0 (z, fp F 0), by simp; omega, rfl, ?_, hR5.mono (by omega), HK4.out.grown HS.out.2 hrb (fun j hj => by injection hj with hj; omega)⟩
        have h := HS.out.1
        unfold OwnF
        rw [List.length_set]
        exact ownC_of h
      · have hxe : ((x : Int) == 0) = false := by simpa using hx0
        by_cases hx1 : x = 1
        · subst hx1
          go_wp2_with fail
          refine (one_lit rb (P + 20 + 1) [-1, 12, 5] w3 _ (by simp) (by simp) (by omega) HR3.out).mono ?_
          rintro e w4 ⟨z, hz, rfl, hR4, hK4⟩
          have hown := ownsC_keeps HO3.out hK4 hrb
          have HK4 := Lib.hid (HK3.out.trans hK4)
          have HR4 := Lib.hid hR4
          have hA := figC_at F 0 hpos
          have c0 : w4.cell? ⟨g, 1, none⟩ = some (.int .i64 (fp F 0)) := (hown.cellAt 1 (by omega)).trans hA.2
          have f0 : w4.frozen? ⟨g, 1, none⟩ = false := hown.frozenAt 1
          have HS := Lib.hid (fig_store hown rfl hpos z).2
          clear hz hK4 hR4 hown HK3 HR3 HO3 hA
          generalize fp F 0 = y0 at *
          go_wp2_with fail
          go_ret
          have hR5 := (HR4.out.grown HS.out.2 (fun j hj => by injection hj with hj; omega)).1
          refine ⟨_, F.set 0 (fh F 0, z), by simp; omega, rfl, ?_, hR5.mono (by omega), HK4.out.grown HS.out.2 hrb (fun j hj => by injection hj with hj; omega)⟩
          have h := HS.out.1
          unfold OwnF
          rw [List.length_set]
          exact ownC_of h
        · have hxe1 : ((x : Int) == 1) = false := by rw [beq_eq_false_iff_ne]; omega
          go_wp2_with fail
          go_ret
          exact ⟨_, F, hF, rfl, ownC_of HO3.out, HR3.out.mono (by omega), HK3.out⟩
end Go.Proofs.Ytfiogefigjnaiaa
