/- Drawn spaces of pages; what PlaceFigures' law draws. -/
import Derived.Test.YtfiogefigjnaiaaDrawFig
namespace Go.Proofs.Ytfiogefigjnaiaa
open Go.RowKit
set_option maxHeartbeats 2000000
set_option maxRecDepth 100000

/-- one_lit, the new row's block under a name of its own. -/
theorem one_litH (rb P H : Nat) (zs : List Int) (w : World) (T : TypeId) (hH : w.heap.size = H) (hn : 1 ≤ zs.length) (hn2 : zs.length ≤ 1000000) (hP : P ≤ 900000) (hR : Rdr w rb P) :
    Calls Try.prog 42 #[.pointer (some ⟨rb, 0, none⟩), .slice (some ⟨H, 0, none⟩) zs.length zs.length] (w.alloc (.cells (zs.map (Value.int .i64)).toArray T)) fun e w' => ∃ z, z ∈ zs ∧ e = .returned (.int .i64 z) ∧ Rdr w' rb (P + 1) ∧ Keeps rb w w' := by
  subst hH
  exact one_lit rb P zs w T hn hn2 hP hR
theorem someSpace_any (rb P : Nat) (w : World) (hP : P ≤ 800000) (hR : Rdr w rb P) :
    Calls Try.prog 36 #[.pointer (some ⟨rb, 0, none⟩)] w (DrewR rb (P + 30) 13 w) := by
  have hrb := hR.lies
  have HO : Hid ((w.alloc (.cells #[] 3)).ownsRow w.heap.size 3 1 (.slice (some ⟨w.heap.size, 0, none⟩) 0 0) 0 (([] : List Int).map (Value.int .i64))) :=
    World.ownsRow_lit w #[] 0 (Nat.le_refl _) (Nat.zero_le _) rfl
  have hb2 : Below w.heap.size w (w.alloc (.cells #[] 3)) := (Below.refl _ _).alloc (Nat.le_refl _) _
  have hR2 := hR.below hb2
  have HK2 := Lib.hid (Keeps.of_below hrb hb2)
  clear hb2 hR
  go_enter Try.func36, Try.ntmps36
  go_wp2_with fail
  refine (one_litH rb P (w.heap.size + 1) [0, 2, 4, 7, 12, 10, 13] (w.alloc (.cells #[] 3)) _ (by simp) (by simp) (by simp) (by omega) hR2).mono ?_
  rintro e w2 ⟨c0, hc, rfl, hR3, hK3⟩
  obtain ⟨c, rfl, hc13⟩ : ∃ c : Nat, c0 = c ∧ c ≤ 13 := by
    simp only [List.mem_cons, List.not_mem_nil, or_false] at hc
    exact ⟨c0.toNat, by omega, by omega⟩
  have HO3 := Lib.hid (owns_keeps HO.out hK3 hrb)
  have HK3 := Lib.hid (HK2.out.trans hK3)
  have HR3 := Lib.hid hR3
  clear HO HK2 hK3 hR3 hR2 hc
  go_wp2_with fail
  go_loopw [3, 4] (fun v n wr => ∃ (k : Nat) (L : List Int), n = .int .i64 k ∧ k + L.length ≤ 13 ∧ Hid (Rdr wr rb (P + 1 + L.length)) ∧ Hid (Keeps rb w wr) ∧ Hid (wr.ownsRow w.heap.size 3 1 v L.length (L.map (Value.int .i64)))) (fun _ n _ => (intOf n).toNat)
  case atStart => exact ⟨c, [], rfl, by simpa using hc13, HR3, HK3, HO3⟩
  case round =>
    clear HO3 HK3 HR3
    obtain ⟨k, L, rfl, hkl, HR, HK, HO⟩ := hrel
    by_cases hk : 0 < k
    · go_wp2_with fail
      refine (one_lit rb (P + 1 + L.length) [0, 5, 10, 20, 8] wr _ (by simp) (by simp) (by omega) HR.out).mono ?_
      rintro e w3 ⟨x, hx, rfl, hR3, hK3⟩
      have hown := owns_keeps HO.out hK3 hrb
      have HK3 := Lib.hid (HK.out.trans hK3)
      have hl4 : w.heap.size ≤ w3.heap.size := Nat.le_trans HK.out.below.size hK3.below.size
      have HR3 := Lib.hid hR3
      have HX := Lib.hid hx
      clear hK3 hR3 HO HK HR hx
      go_wp2_with (at_builtin; go_must (refine wpList_append_int rfl _ _ rfl w.heap.size _ L.length L x hown rfl rfl (by omega) hl4 ?_))
      intro v' w4 hown' hgrow
      have hR4 := (HR3.out.grown hgrow (fun j hj => by have := (hown.lt j hj).1; omega)).1
      have HK4 := Lib.hid (HK3.out.grown hgrow hrb (fun j hj => (hown.lt j hj).1))
      have HR4 := Lib.hid hR4
      have HO4 : Hid (w4.ownsRow w.heap.size 3 1 v' (L ++ [x]).length ((L ++ [x]).map (Value.int .i64))) := Lib.hid (by simpa using hown')
      have HSub : Hid ((k : Int) - 1 = ((k - 1 : Nat) : Int)) := Lib.hid (by omega)
      clear hown hown' hgrow hR4 HK3 HR3
      go_wp2_with fail
      rw [HSub.out]
      go_roundw
      case rel => exact ⟨k - 1, L ++ [x], rfl, by simp; omega, Lib.hid (HR4.out.mono (by simp; omega)), HK4, HO4⟩
      case measure => simp [intOf]; omega
    · obtain rfl : k = 0 := by omega
      rcases HO.out.2 with ⟨rfl, h0⟩ | ⟨g, cp, cur, rfl, hg1, hg2, hg3, hg4, _⟩
      · have hL : L = [] := List.length_eq_zero_iff.1 h0
        subst hL
        have HOwn : Hid (OwnI w.heap.size wr.heap.size wr (.slice none 0 0) []) := Lib.hid (own_rowD HO.out rfl)
        go_wp2_with fail
        go_ret
        exact ⟨_, [], by simp, rfl, HOwn.out, HR.out.mono (by simp), HK.out⟩
      · clear hg2
        by_cases hn : L.length = 0
        · have HOwn : Hid (OwnI w.heap.size wr.heap.size wr (.slice (some ⟨g, 0, none⟩) L.length cp) L) := Lib.hid (own_rowD HO.out rfl)
          obtain rfl : L = [] := List.length_eq_zero_iff.1 hn
          clear hn
          go_wp2_with fail
          go_ret
          exact ⟨_, [], by simp, rfl, HOwn.out, HR.out.mono (by simp), HK.out⟩
        · have hd : decide ((0 : Int) < (L.length : Int)) = true := by simp; omega
          have hpos : 0 < L.length := by omega
          go_wp2_with fail
          refine (pick_pos rb (P + 1 + L.length) 14 _ (by omega) (by omega) HR.out).mono ?_
          rintro e w3 ⟨x, hx, rfl, hR3, hK3⟩
          have HO3 := Lib.hid (owns_keeps HO.out hK3 hrb)
          have HK3 := Lib.hid (HK.out.trans hK3)
          have HR3 := Lib.hid hR3
          clear hK3 hR3 HO HK HR hd hn
          by_cases hx0 : x = 0
          · subst hx0
            go_wp2_with fail
            refine (one_lit rb (P + 1 + L.length + 1) [-1, 10001] w3 _ (by simp) (by simp) (by omega) HR3.out).mono ?_
            rintro e w4 ⟨z, hz, rfl, hR4, hK4⟩
            have hown := owns_keeps HO3.out hK4 hrb
            have HK4 := Lib.hid (HK3.out.trans hK4)
            have HR4 := Lib.hid hR4
            have c0 : w4.cell? ⟨g, 0, none⟩ = some (.int .i64 (L.getD 0 0)) := by rw [hown.cellAt 0 (by omega)]; exact getD_map_int L 0 hpos
            have f0 : w4.frozen? ⟨g, 0, none⟩ = false := hown.frozenAt 0
            have HS := Lib.hid (hown.stored 0 (.int .i64 z))
            clear hz hK4 hR4 hown HK3 HR3 HO3
            generalize L.getD 0 0 = y at *
            go_wp2_with fail
            go_ret
            have hR5 := (HR4.out.grown HS.out.2 (fun j hj => by injection hj with hj; omega)).1
            refine ⟨_, L.set 0 z, by simp; omega, rfl, ?_, hR5.mono (by omega), HK4.out.grown HS.out.2 hrb (fun j hj => by injection hj with hj; omega)⟩
            have h := HS.out.1
            rw [← List.map_set] at h
            exact own_rowD (L := L.set 0 z) h (by simp)
          · have hxe : ((x : Int) == 0) = false := by simpa using hx0
            have HOwn : Hid (OwnI w.heap.size w3.heap.size w3 (.slice (some ⟨g, 0, none⟩) L.length cp) L) := Lib.hid (own_rowD HO3.out rfl)
            go_wp2_with fail
            go_ret
            exact ⟨_, L, by omega, rfl, HOwn.out, HR3.out.mono (by omega), HK3.out⟩

theorem ownF_keeps {rb lo hi : Nat} {w w' : World} {v : Value} {F : List (Int × Int)} (h : OwnF lo hi w v F) (hk : Keeps rb w w') (hB : rb < lo) : OwnF lo hi w' v F :=
  ⟨ownsC_keeps (OwnC.row h) hk hB, OwnC.top h, Nat.le_trans (OwnC.fits h) hk.below.size⟩
def DrewFS (w : World) (e : Ending) (w' : World) : Prop := ∃ (v u : Value) (F : List (Int × Int)) (S : List Int), F.length ≤ 5 ∧ S.length ≤ 13 ∧ e = .returned (.tuple #[v, u]) ∧ OwnF w.heap.size w'.heap.size w' v F ∧ OwnI w.heap.size w'.heap.size w' u S ∧ Below w.heap.size w w'
theorem drawPlaceFigures_any (a : Option Addr) (len cap : Nat) (zs : List Int) (w : World) (h : RowIn .u8 w a len cap zs) :
    Calls Try.prog 20 #[.slice a len cap] w (DrewFS w) := by
  have HR := Lib.hid h; clear h
  go_enter Try.func20, Try.ntmps20
  go_wp2_with fail
  refine (newReader_any a len cap zs _ HR.out).mono ?_
  rintro e w1 ⟨rfl, hR, hb⟩
  have hlt : w.heap.size < w1.heap.size := hR.lies
  have HB := Lib.hid hb
  clear hb
  go_wp2_with fail
  refine (anyFigures_any w.heap.size 0 _ (by omega) hR).mono ?_
  rintro e w2 ⟨v, F, hF, rfl, o2, hR2, hK2⟩
  have hlt2 : w.heap.size < w2.heap.size := hR2.lies
  have HB2 := Lib.hid (HB.out.trans hK2.below)
  have HO2 := Lib.hid o2
  clear o2 hK2 hR HB
  go_wp2_with fail
  refine (someSpace_any w.heap.size (0 + 22) w2 (by omega) hR2).mono ?_
  rintro e w3 ⟨u, S, hS, rfl, o3, hR3, hK3⟩
  have HB3 := Lib.hid (HB2.out.trans hK3.below)
  have HO3 : Hid (OwnF w.heap.size w3.heap.size w3 v F) := Lib.hid (OwnC.mono (ownF_keeps HO2.out hK3 hlt) (Nat.le_of_lt hlt) hK3.below.size (Nat.le_refl _))
  have HS3 := Lib.hid (o3.mono (Nat.le_of_lt hlt2) (Nat.le_refl _) (Nat.le_refl _))
  clear hK3 hR3 HO2 HB2 o3
  go_wp2_with fail
  go_ret2
  exact ⟨v, u, F, S, hF, hS, rfl, HO3.out, HS3.out, HB3.out⟩

theorem place_check {F : List (Int × Int)} {S out : List Int} (h : placeS F S = some out) : checkS F S out = true ∧ 0 ≤ delayS F S out := by
  unfold placeS at h
  cases h1 : okF F
  · rw [h1] at h; cases h
  · cases h2 : okS S
    · rw [h1, h2] at h; cases h
    · rw [h1, h2] at h
      cases hc : plS F S F.length with
      | none => rw [hc] at h; cases h
      | some t =>
        obtain ⟨l, pg, o⟩ := t
        rw [hc] at h
        have e : o = out := by simpa using h
        subst e
        have hk := place_ok h1 h2 F.length (Nat.le_refl _) l pg o hc
        have hl := (plS_room h1 h2 F.length (Nat.le_refl _) l pg o hc).2.2.1
        have hch := checkS_yes h1 h2 hl hk
        refine ⟨hch, ?_⟩
        rw [delayS_yes hch]
        exact ((delay_facts hch).2.2.2 F.length (Nat.le_refl _)).1

theorem placeFigures_walk (a : Option Addr) (len cap : Nat) (zs : List Int) (w : World) (h : RowIn .u8 w a len cap zs) :
    Calls Try.prog 5 #[.slice a len cap] w fun e w' => e = .returned (.bool true) ∧ Below w.heap.size w w' := by
  have hm := h.len_le.1
  unfold maxLen at hm
  have HR := Lib.hid h; clear h
  by_cases hl : 1048576 < len
  · go_enter Try.func5, Try.ntmps5
    go_wp2
    go_ret
    exact ⟨rfl, Below.refl _ _⟩
  · go_enter Try.func5, Try.ntmps5
    go_wp2_with fail
    refine (drawPlaceFigures_any a len cap zs _ HR.out).mono ?_
    rintro e w1 ⟨v, u, F, S, hF, hS, rfl, of1, os1, b1⟩
    have B1 := b1
    clear b1
    go_wp2_with fail
    refine (placeFigures_any v u F S _ (OwnF.sl of1) os1.sl).mono ?_
    rintro e w2 ⟨vp, rfl, op, b2⟩
    have B2 := B1.trans (b2.mono B1.size)
    have of1 : OwnF _ _ w2 v F := OwnC.below of1 b2
    have os1 := os1.below b2
    clear b2 B1
    go_wp2_with fail
    refine (splaceFigures_any _ _ v u F S _ (OwnF.sl of1) os1).mono ?_
    rintro e w3 ⟨vq, rfl, oq, b3⟩
    have B3 := B2.trans (b3.mono B2.size)
    have of1 : OwnF _ _ w3 v F := OwnC.below of1 b3
    have os1 := os1.below b3
    have op := op.below b3
    clear b3 B2
    have hbb : ((placeS F S).isSome != (placeS F S).isSome) = false := by simp
    go_wp2_with fail
    refine (equalInts_any vp vq _ _ _ op.sl oq.sl).mono ?_
    rintro e w4 ⟨n4, rfl, rfl⟩
    have B4 := below_drewN B3 n4
    have of1 : OwnF _ _ (w3.drewN n4) v F := OwnC.drewN of1 n4
    have os1 := os1.drewN n4
    have op := op.drewN n4
    have oq := oq.drewN n4
    clear B3
    generalize w3.drewN n4 = w4 at *
    cases hp : placeS F S with
    | none =>
      rw [hp] at op oq hbb
      go_wp2_with fail
      refine (equalInts_any vp vq _ _ _ op.sl oq.sl).mono ?_
      rintro e w5 ⟨n5, rfl, rfl⟩
      go_wp2_with fail
      go_ret
      exact ⟨rfl, below_drewN B4 n5⟩
    | some out =>
      rw [hp] at op oq hbb
      obtain ⟨hc, hd0⟩ := place_check hp
      go_wp2_with fail
      refine (checkFigures_any v u vp F S out _ (OwnF.sl of1) os1.sl op.sl).mono ?_
      rintro e w5 ⟨rfl, b5⟩
      rw [hc]
      have B5 := B4.trans (b5.mono B4.size)
      have of1 : OwnF _ _ w5 v F := OwnC.below of1 b5
      have os1 := os1.below b5
      have op := op.below b5
      clear b5 B4 hc
      go_wp2_with fail
      refine (totalDelay_any v u vp F S out _ (OwnF.sl of1) os1.sl op.sl).mono ?_
      rintro e w6 ⟨rfl, b6⟩
      have B6 := B5.trans (b6.mono B5.size)
      clear b6 B5
      generalize delayS F S out = d at *
      go_wp2_with fail
      go_ret
      exact ⟨rfl, B6⟩
end Go.Proofs.Ytfiogefigjnaiaa
