/- The program's ParsePages. -/
import Derived.Test.YtckmkjkckadfjaaDoorParPg
namespace Go.Proofs.YtckmkjkckadfjaaDoor
open Go.RowKit Go.Shelf
set_option maxHeartbeats 4000000
set_option maxRecDepth 100000
set_option linter.unusedVariables false

/-- Between two rounds: the places of the results as they were laid; the numbers so far in a row whose slice the box holds. -/
def MidP (w : World) (lo : Nat) (P : List Bs) (k : Nat) (W : World) : Prop :=
  Res w W ∧ ∃ (v : Value) (out : List Int), Boxed W (w.heap.size + 1 + 1) 23 v ∧ out.length ≤ 80 ∧ W.ownsRow lo 3 1 v out.length (out.map (Value.int .i64)) ∧ parF (P.drop k) out = parF P []
def EndP (w : World) (P : List Bs) (W : World) : Prop := Res w W ∧ parF P [] = none
attribute [local go_sem] Oper.semAt_some
theorem parse_any (s : ByteArray) (w : World) (hs : s.size ≤ 1048576) (hE : ErrV w) (hM : MaxL w) (hT : Pow10 w) :
    Calls Tryd.prog 9 #[.string s] w (GaveP (impI s.data.toList) w) := by
  obtain ⟨X, hXX⟩ : ∃ X, Lib.splitB sepA 0 s.size s = X := ⟨_, rfl⟩
  obtain ⟨P, hP⟩ : ∃ P, X.map (·.data.toList) = P := ⟨_, rfl⟩
  obtain ⟨w3, hw3⟩ : ∃ w3, ((w.alloc (.cells #[.slice none 0 0] 23)).alloc (.cells #[.bool false] 4)).alloc (.cells #[.slice none 0 0] 23) = w3 := ⟨_, rfl⟩
  have HC := Lib.hid (splitSeq_any s w3)
  refine callsIn_wide.1 (callsIn_of_wp_marks (n := 0) Tryd.func9 rfl trivial ?_ rfl)
  simp only [Tryd.ntmps9, List.size_toArray, List.length_cons, List.length_nil, Nat.reduceAdd, Nat.reduceSub, Array.replicate_succ, Array.replicate_zero, List.push_toArray, List.append_toArray, List.nil_append, List.cons_append]
  gi_wp2_with (refine ⟨trivial, rfl, ?_⟩; gi_at_call 23; refine (callsIn_wide.2 HC.out).mono ?_; rintro e w' ⟨rfl, rfl⟩)
  have hz3 : w3.heap.size = w.heap.size + 1 + 1 + 1 := by rw [← hw3]; simp
  have hb3 : Below w.heap.size w w3 := by rw [← hw3]; exact (((Below.refl _ w).alloc (Nat.le_refl _) _).alloc (by simp) _).alloc (by simp; omega) _
  have hbS : Below w3.heap.size w3 (seqW s w3) := (((Below.refl _ w3).alloc (Nat.le_refl _) _).alloc (by simp) _).alloc (by simp; omega) _
  have hzS : (seqW s w3).heap.size = w.heap.size + 6 := by simp [seqW, hz3]
  have hr0 : Boxed (seqW s w3) w.heap.size 23 (.slice none 0 0) := boxed_below hbS (by rw [← hw3]; exact ((Boxed.new w _ _).alloc _).alloc _)
  have hr1 : Boxed (seqW s w3) (w.heap.size + 1) 4 (.bool false) := boxed_below hbS (by
    rw [← hw3]
    have := Boxed.new (w.alloc (.cells #[.slice none 0 0] 23)) 4 (.bool false)
    rw [World.size_alloc] at this
    exact this.alloc _)
  have hr2 : Boxed (seqW s w3) (w.heap.size + 1 + 1) 23 (.slice none 0 0) := boxed_below hbS (by
    rw [← hw3]
    have := Boxed.new ((w.alloc (.cells #[.slice none 0 0] 23)).alloc (.cells #[.bool false] 4)) 23 (.slice none 0 0)
    rwa [World.size_alloc, World.size_alloc] at this)
  have hRes : Res w (seqW s w3) := ⟨hr0, hr1, hb3.trans (hbS.mono (by omega))⟩
  have hml : 0 < w.heap.size := by obtain ⟨m, _, h⟩ := hM; exact h
  have hSeq := splitSeq_seq s w3 (w.heap.size + 1 + 1) (by omega) (hM.below hb3) (by omega) (by omega)
  rw [hXX] at hSeq
  obtain ⟨W0, hW0⟩ : ∃ W0, seqW s w3 = W0 := ⟨_, rfl⟩
  obtain ⟨sv, hsv⟩ : ∃ sv, seqV w3.heap.size = sv := ⟨_, rfl⟩
  rw [hW0] at hSeq hRes hr2 hzS ⊢
  rw [hsv]
  clear hr0 hr1 hbS hb3 hW0
  refine wpIn_range_box (gf := 46) hsv.symm (enters_of Tryd.func46 (by kernel_rfl) rfl) hSeq (by omega) rfl
    (MidP w W0.heap.size P) (EndP w P)
    (fun k A B h hc => ?hI) (fun A B h hc => ?hIx) ⟨hRes, .slice none 0 0, [], hr2, by simp, World.ownsRow_nil _ _ _ _, rfl⟩
    (fun x => { tmps := #[.string s, undef, .pointer (some ⟨w.heap.size, 0, none⟩), .pointer (some ⟨w.heap.size + 1, 0, none⟩), .pointer (some ⟨w.heap.size + 1 + 1, 0, none⟩), .string x, undef, undef, undef, undef, undef, undef, undef, .string s, sv, .string x, undef, undef, undef, undef, undef, undef, undef, undef, undef, undef, undef, undef, undef, undef, undef, undef, undef, undef, undef, undef, undef, undef, undef, undef, undef, undef, undef, undef, undef, undef, undef, undef, undef, undef, undef, undef, undef, undef, undef, undef, undef, undef, undef, undef, undef, undef, undef, undef, undef, undef, undef, undef, undef], defers := [] }) ?assign ?body ?done ?stop
  case hI =>
    obtain ⟨h1, v, out, h2, h3, h4, h5⟩ := h
    exact ⟨h1.calm hc (by omega) (by omega), v, out, boxed_calm hc h2 (by omega), h3, row_calm h4 hc (by omega), h5⟩
  case hIx => exact ⟨h.1.calm hc (by omega) (by omega), h.2⟩
  case assign =>
    intro l x W K hK
    gi_wp2
    exact hK
  case body =>
    rintro l k x W hlW hx ⟨hRs, v, out, hBx, hl80, hrow, hpar⟩
    have hlo0 : w.heap.size + 1 + 1 < W0.heap.size := by omega
    clear hzS hz3
    have hPx : P[k]? = some x.data.toList := by rw [← hP, List.getElem?_map, hx]; rfl
    have hstep := parF_at hPx out
    rw [hpar] at hstep
    have hxs : x.size ≤ s.size := by
      have h1 := splitK_le sepB s.size s.data.toList x.data.toList (by
        have := List.mem_of_getElem? hPx
        rw [← hP, ← hXX, Lib.splitB_data] at this
        exact this)
      simpa using h1
    obtain ⟨m, hm1, hm2⟩ := (hM.below hRs.low)
    have hCut := Tryd.strings_Cut x ⟨#[45]⟩ m W (by omega) hm1
    have hcz := cut_size x.data.toList [45]
    have hxl : x.data.toList.length = x.size := by simp
    obtain ⟨z, hz⟩ : ∃ z, Lib.cut x.data.toList [45] = z := ⟨_, rfl⟩
    unfold stepP at hstep
    have hz2 : Lib.cut x.data.toList (⟨#[45]⟩ : ByteArray).data.toList = z := hz
    rw [hz2] at hCut
    rw [hz] at hstep hcz
    obtain ⟨c1, c2, c3⟩ := z
    simp only at hstep hcz
    obtain ⟨t1, ht1⟩ : ∃ t1 : ByteArray, (⟨c1.toArray⟩ : ByteArray) = t1 := ⟨_, rfl⟩
    obtain ⟨t2, ht2⟩ : ∃ t2 : ByteArray, (⟨c2.toArray⟩ : ByteArray) = t2 := ⟨_, rfl⟩
    have hN1 : ∀ w', Below W.heap.size W w' → Calls Tryd.prog 25 #[.string t1] w' (NumP c1 w') := fun w' hb => by
      have := pageNumber_any t1 w' (by rw [← ht1]; simp [ByteArray.size]; omega) (hE.below (hRs.low.trans (hb.mono hRs.low.size)))
      rw [← ht1] at this ⊢
      simpa using this
    have hN2 : ∀ w', Below W.heap.size W w' → Calls Tryd.prog 25 #[.string t2] w' (NumP c2 w') := fun w' hb => by
      have := pageNumber_any t2 w' (by rw [← ht2]; simp [ByteArray.size]; omega) (hE.below (hRs.low.trans (hb.mono hRs.low.size)))
      rw [← ht2] at this ⊢
      simpa using this
    have HCut : Hid (Calls Tryd.prog 24 #[.string x, .string ⟨#[45]⟩] W fun e w' => e = .returned (.tuple #[.string t1, .string t2, .bool c3]) ∧ ∃ n, w' = W.drewN n) := Lib.hid (by rw [← ht1, ← ht2]; exact hCut)
    have HB0 := Lib.hid hBx
    have HR0 := Lib.hid hrow
    have HRs0 := Lib.hid hRs
    have HW := Lib.hid hlW
    clear hBx hrow hRs hx hPx hpar hCut hz hz2 ht1 ht2 hcz hm1 hm2 hxl hXX hSeq hRes hr2 hsv hw3 HC hP hE hM hT
    obtain ⟨av, cv, hsh⟩ := row_shape HR0.out
    subst hsh
    rcases h1 : pnum c1 with _ | a
    · have HN1 : Hid (∀ w', Below W.heap.size W w' → Calls Tryd.prog 25 #[.string t1] w' fun e w'' => e = .returned (.tuple #[.int .i64 0, .bool false]) ∧ Below w'.heap.size w' w'') := Lib.hid (fun w' hb => by have := hN1 w' hb; unfold NumP at this; rw [h1] at this; exact this)
      rw [h1] at hstep
      have HNo : Hid (parF P [] = none) := Lib.hid hstep
      clear hN1 hN2 hstep h1
      cases c3
      · skip
        gi_wp2_with fail
        refine ⟨trivial, rfl, (CallsIn.inRound l (callsIn_wide.2 HCut.out)).mono ?_⟩
        rintro e w1 ⟨rfl, n1, rfl⟩
        have HB1 : Hid (Below W.heap.size W (W.drewN n1)) := Lib.hid (bel_drewN (Below.refl _ _) n1)
        generalize W.drewN n1 = w1 at *
        gi_wp2_with fail
        refine ⟨trivial, rfl, (CallsIn.inRound l (callsIn_wide.2 (HN1.out _ HB1.out))).mono ?_⟩
        rintro e w2 ⟨rfl, b2⟩
        have HB2 : Hid (Below W.heap.size W w2) := Lib.hid (HB1.out.trans (b2.mono HB1.out.size))
        clear b2 HN1 HB1 HCut
        have HD2 : Hid (Duro W0.heap.size (w.heap.size + 1 + 1) W w2) := Lib.hid (Duro.of_below HB2.out HW.out)
        have HRs : Hid (Res w w2) := Lib.hid (HRs0.out.duro HD2.out (by omega) (by omega))
        have HBx : Hid (Boxed w2 (w.heap.size + 1 + 1) 23 (.slice av out.length cv)) := Lib.hid (boxed_below HB2.out HB0.out)
        have HRow : Hid (w2.ownsRow W0.heap.size 3 1 (.slice av out.length cv) out.length (out.map (Value.int .i64))) := Lib.hid (row_below HR0.out HB2.out)
        clear HB2 HB0 HR0 HRs0
        have c0 := (HRs.out).b0.cell
        have f0 := (HRs.out).b0.frozen
        have c1 := (HRs.out).b1.cell
        have f1 := (HRs.out).b1.frozen
        have HKf : Hid (KeepsFrom W0.heap.size W ((w2.setCell ⟨w.heap.size, 0, none⟩ (.slice none 0 0)).setCell ⟨w.heap.size + 1, 0, none⟩ (.bool false))) := Lib.hid (HD2.out.keeps.trans (((KeepsOthers.setCell _ _ _).trans (KeepsOthers.setCell _ _ _)).from _))
        have HRf : Hid (Res w ((w2.setCell ⟨w.heap.size, 0, none⟩ (.slice none 0 0)).setCell ⟨w.heap.size + 1, 0, none⟩ (.bool false))) := Lib.hid HRs.out.put
        clear HRs HD2
        gi_wp2
        exact ⟨HKf.out, (⟨HRf.out, HNo.out⟩ : _ ∧ _)⟩
      · skip
        gi_wp2_with fail
        refine ⟨trivial, rfl, (CallsIn.inRound l (callsIn_wide.2 HCut.out)).mono ?_⟩
        rintro e w1 ⟨rfl, n1, rfl⟩
        have HB1 : Hid (Below W.heap.size W (W.drewN n1)) := Lib.hid (bel_drewN (Below.refl _ _) n1)
        generalize W.drewN n1 = w1 at *
        gi_wp2_with fail
        refine ⟨trivial, rfl, (CallsIn.inRound l (callsIn_wide.2 (HN1.out _ HB1.out))).mono ?_⟩
        rintro e w2 ⟨rfl, b2⟩
        have HB2 : Hid (Below W.heap.size W w2) := Lib.hid (HB1.out.trans (b2.mono HB1.out.size))
        clear b2 HN1 HB1 HCut
        have HD2 : Hid (Duro W0.heap.size (w.heap.size + 1 + 1) W w2) := Lib.hid (Duro.of_below HB2.out HW.out)
        have HRs : Hid (Res w w2) := Lib.hid (HRs0.out.duro HD2.out (by omega) (by omega))
        have HBx : Hid (Boxed w2 (w.heap.size + 1 + 1) 23 (.slice av out.length cv)) := Lib.hid (boxed_below HB2.out HB0.out)
        have HRow : Hid (w2.ownsRow W0.heap.size 3 1 (.slice av out.length cv) out.length (out.map (Value.int .i64))) := Lib.hid (row_below HR0.out HB2.out)
        clear HB2 HB0 HR0 HRs0
        have c0 := (HRs.out).b0.cell
        have f0 := (HRs.out).b0.frozen
        have c1 := (HRs.out).b1.cell
        have f1 := (HRs.out).b1.frozen
        have HKf : Hid (KeepsFrom W0.heap.size W ((w2.setCell ⟨w.heap.size, 0, none⟩ (.slice none 0 0)).setCell ⟨w.heap.size + 1, 0, none⟩ (.bool false))) := Lib.hid (HD2.out.keeps.trans (((KeepsOthers.setCell _ _ _).trans (KeepsOthers.setCell _ _ _)).from _))
        have HRf : Hid (Res w ((w2.setCell ⟨w.heap.size, 0, none⟩ (.slice none 0 0)).setCell ⟨w.heap.size + 1, 0, none⟩ (.bool false))) := Lib.hid HRs.out.put
        clear HRs HD2
        gi_wp2
        exact ⟨HKf.out, (⟨HRf.out, HNo.out⟩ : _ ∧ _)⟩
    · obtain ⟨ha1, ha2⟩ := pnum_bd h1
      have HN1 : Hid (∀ w', Below W.heap.size W w' → Calls Tryd.prog 25 #[.string t1] w' fun e w'' => e = .returned (.tuple #[.int .i64 a, .bool true]) ∧ Below w'.heap.size w' w'') := Lib.hid (fun w' hb => by have := hN1 w' hb; unfold NumP at this; rw [h1] at this; exact this)
      rw [h1] at hstep
      cases c3
      · obtain ⟨b, hb⟩ : ∃ b, a = b := ⟨_, rfl⟩
        by_cases h40 : 40 < out.length
        · have HNo : Hid (parF P [] = none) := Lib.hid (by rw [hstep]; simp [h40])
          have hd40 : decide ((40 : Int) < (out.length : Int)) = true := decide_eq_true (by omega)
          clear hN1 hN2 hstep h1 hb h40
          gi_wp2_with fail
          refine ⟨trivial, rfl, (CallsIn.inRound l (callsIn_wide.2 HCut.out)).mono ?_⟩
          rintro e w1 ⟨rfl, n1, rfl⟩
          have HB1 : Hid (Below W.heap.size W (W.drewN n1)) := Lib.hid (bel_drewN (Below.refl _ _) n1)
          generalize W.drewN n1 = w1 at *
          gi_wp2_with fail
          refine ⟨trivial, rfl, (CallsIn.inRound l (callsIn_wide.2 (HN1.out _ HB1.out))).mono ?_⟩
          rintro e w2 ⟨rfl, b2⟩
          have HB2 : Hid (Below W.heap.size W w2) := Lib.hid (HB1.out.trans (b2.mono HB1.out.size))
          clear b2 HN1 HB1 HCut
          have HD2 : Hid (Duro W0.heap.size (w.heap.size + 1 + 1) W w2) := Lib.hid (Duro.of_below HB2.out HW.out)
          have HRs : Hid (Res w w2) := Lib.hid (HRs0.out.duro HD2.out (by omega) (by omega))
          have HBx : Hid (Boxed w2 (w.heap.size + 1 + 1) 23 (.slice av out.length cv)) := Lib.hid (boxed_below HB2.out HB0.out)
          have HRow : Hid (w2.ownsRow W0.heap.size 3 1 (.slice av out.length cv) out.length (out.map (Value.int .i64))) := Lib.hid (row_below HR0.out HB2.out)
          clear HB2 HB0 HR0 HRs0
          have hc := HBx.out.cell
          have c0 := (HRs.out).b0.cell
          have f0 := (HRs.out).b0.frozen
          have c1 := (HRs.out).b1.cell
          have f1 := (HRs.out).b1.frozen
          have HKf : Hid (KeepsFrom W0.heap.size W ((w2.setCell ⟨w.heap.size, 0, none⟩ (.slice none 0 0)).setCell ⟨w.heap.size + 1, 0, none⟩ (.bool false))) := Lib.hid (HD2.out.keeps.trans (((KeepsOthers.setCell _ _ _).trans (KeepsOthers.setCell _ _ _)).from _))
          have HRf : Hid (Res w ((w2.setCell ⟨w.heap.size, 0, none⟩ (.slice none 0 0)).setCell ⟨w.heap.size + 1, 0, none⟩ (.bool false))) := Lib.hid HRs.out.put
          clear HRs HD2
          gi_wp2
          exact ⟨HKf.out, (⟨HRf.out, HNo.out⟩ : _ ∧ _)⟩
        · have HGo : Hid (parF (P.drop (k + 1)) (out ++ rng a a) = parF P []) := Lib.hid (by rw [hstep]; simp [h40])
          have hd40 : decide ((40 : Int) < (out.length : Int)) = false := decide_eq_false (by omega)
          clear hN1 hN2 hstep h1 hb
          gi_wp2_with fail
          refine ⟨trivial, rfl, (CallsIn.inRound l (callsIn_wide.2 HCut.out)).mono ?_⟩
          rintro e w1 ⟨rfl, n1, rfl⟩
          have HB1 : Hid (Below W.heap.size W (W.drewN n1)) := Lib.hid (bel_drewN (Below.refl _ _) n1)
          generalize W.drewN n1 = w1 at *
          gi_wp2_with fail
          refine ⟨trivial, rfl, (CallsIn.inRound l (callsIn_wide.2 (HN1.out _ HB1.out))).mono ?_⟩
          rintro e w2 ⟨rfl, b2⟩
          have HB2 : Hid (Below W.heap.size W w2) := Lib.hid (HB1.out.trans (b2.mono HB1.out.size))
          clear b2 HN1 HB1 HCut
          have HD2 : Hid (Duro W0.heap.size (w.heap.size + 1 + 1) W w2) := Lib.hid (Duro.of_below HB2.out HW.out)
          have HRs : Hid (Res w w2) := Lib.hid (HRs0.out.duro HD2.out (by omega) (by omega))
          have HBx : Hid (Boxed w2 (w.heap.size + 1 + 1) 23 (.slice av out.length cv)) := Lib.hid (boxed_below HB2.out HB0.out)
          have HRow : Hid (w2.ownsRow W0.heap.size 3 1 (.slice av out.length cv) out.length (out.map (Value.int .i64))) := Lib.hid (row_below HR0.out HB2.out)
          clear HB2 HB0 HR0 HRs0
          have hc := HBx.out.cell
          gi_wp2_with fail
          gi_loopw [12] (fun p wr => ∃ (d : Nat) (v : Value), p = .int .i64 (a + d) ∧ d ≤ 40 ∧ (d = 0 ∨ a + (d : Int) ≤ a + 1) ∧ Hid (Boxed wr (w.heap.size + 1 + 1) 23 v) ∧ Hid (wr.ownsRow W0.heap.size 3 1 v (out.length + d) ((out ++ (rng a a).take d).map (Value.int .i64))) ∧ Hid (Res w wr) ∧ Hid (Duro W0.heap.size (w.heap.size + 1 + 1) W wr)) (fun p _ => (a + 1 - intOf p).toNat)
          case atStart => exact ⟨0, _, by simp, by omega, .inl rfl, HBx, Lib.hid (by simpa using HRow.out), HRs, HD2⟩
          case round =>
            clear HBx HRow HRs HD2 hc
            obtain ⟨d, v, rfl, hd40, hdb, HBx, HRow, HRs, HD⟩ := hrel
            obtain ⟨m, hm⟩ : ∃ m : Int, a + (d : Int) = m := ⟨_, rfl⟩
            have HM := Lib.hid hm
            rw [hm]
            have hlo : W0.heap.size ≤ wr.heap.size := Nat.le_trans hlW HD.out.size
            by_cases hgo : m ≤ a
            · have hd1 : decide (m ≤ a) = true := decide_eq_true hgo
              have hdd : d + 1 ≤ 40 ∧ a + ((d + 1 : Nat) : Int) ≤ a + 1 := ⟨by omega, by omega⟩
              have HNew : Hid ((rng a a).take (d + 1) = (rng a a).take d ++ [m]) := Lib.hid (by rw [← hm]; exact rng_take_succ a a d (by omega))
              have hw1 : IntKind.i64.wrap (m + 1) = m + 1 := IntWalk.i64_in _ (by omega)
              have hc := HBx.out.cell
              obtain ⟨i0, hi, hz0, hz1, hz2⟩ := info_parts intInfo
              clear hm hd40 hdb
              gi_wp2_with (gi_at_builtin; refine wpListIn_append_own _ rfl _ _ 23 rfl W0.heap.size 3 i0 (.int .i64 0) 1 8 Tryd.underlying23 hi hz0 hz1 hz2 rfl (by decide) _ _ _ rfl (HRow.out.alloc _) ⟨wr.heap.size, 0, none⟩ 1 1 [.int .i64 m] rfl rfl (cell_one_new _ _ _) (by simp [Value.oneCell']) (by unfold maxLen; omega) (by omega) (by simp; omega) ?_; intro v' w5 hown' hgrow _; obtain ⟨g', cap', rfl⟩ := ownsRow_succ hown'; obtain ⟨hv1, hv2, hr2, hk2⟩ := box_appended HBx.out HRow.out hlo (by omega) hown' hgrow; have hc1 := hv1.cell; have hf1 := hv1.frozen; have HV2 := Lib.hid hv2; have HR2 := Lib.hid hr2; have HK2 := Lib.hid hk2; clear hv1 hv2 hr2 hk2 hown' hgrow)
              go_roundw
              case rel => exact ⟨d + 1, _, by rw [← HM.out]; go_num, hdd.1, .inr hdd.2, HV2, Lib.hid (by rw [HNew.out, ← List.append_assoc, List.map_append]; exact HR2.out), Lib.hid (HRs.out.duro HK2.out (by omega) (by omega)), Lib.hid (HD.out.trans HK2.out)⟩
              case measure => have := HM.out; simp [intOf]; omega
            · have hd1 : decide (m ≤ a) = false := decide_eq_false hgo
              have hlen : (rng a a).length = d := by rw [rng_len]; omega
              have HTk : Hid ((rng a a).take d = rng a a) := Lib.hid (List.take_of_length_le (by omega))
              have HLn : Hid ((out ++ rng a a).length = out.length + d) := Lib.hid (by rw [List.length_append, hlen])
              have HI : Hid (MidP w W0.heap.size P (k + 1) wr) := Lib.hid ⟨HRs.out, v, out ++ rng a a, HBx.out, by rw [HLn.out]; omega, by rw [HLn.out]; have h := HRow.out; rw [HTk.out] at h; exact h, HGo.out⟩
              clear HBx HRow HRs HTk HLn hlen hm
              gi_wp2
              exact ⟨HD.out.keeps, HD.out.still, HI.out⟩
      · rcases h2 : pnum c2 with _ | b
        · have HN2 : Hid (∀ w', Below W.heap.size W w' → Calls Tryd.prog 25 #[.string t2] w' fun e w'' => e = .returned (.tuple #[.int .i64 0, .bool false]) ∧ Below w'.heap.size w' w'') := Lib.hid (fun w' hb => by have := hN2 w' hb; unfold NumP at this; rw [h2] at this; exact this)
          rw [h2] at hstep
          have HNo : Hid (parF P [] = none) := Lib.hid hstep
          clear hN1 hN2 hstep h1 h2
          gi_wp2_with fail
          refine ⟨trivial, rfl, (CallsIn.inRound l (callsIn_wide.2 HCut.out)).mono ?_⟩
          rintro e w1 ⟨rfl, n1, rfl⟩
          have HB1 : Hid (Below W.heap.size W (W.drewN n1)) := Lib.hid (bel_drewN (Below.refl _ _) n1)
          generalize W.drewN n1 = w1 at *
          gi_wp2_with fail
          refine ⟨trivial, rfl, (CallsIn.inRound l (callsIn_wide.2 (HN1.out _ HB1.out))).mono ?_⟩
          rintro e wa ⟨rfl, b2⟩
          have HB2 : Hid (Below W.heap.size W wa) := Lib.hid (HB1.out.trans (b2.mono HB1.out.size))
          clear b2 HN1 HB1 HCut
          gi_wp2_with fail
          refine ⟨trivial, rfl, (CallsIn.inRound l (callsIn_wide.2 (HN2.out _ HB2.out))).mono ?_⟩
          rintro e w2 ⟨rfl, b3⟩
          have HB3 : Hid (Below W.heap.size W w2) := Lib.hid (HB2.out.trans (b3.mono HB2.out.size))
          clear b3 HN2 HB2
          have HB2 := HB3
          clear HB3
          have HD2 : Hid (Duro W0.heap.size (w.heap.size + 1 + 1) W w2) := Lib.hid (Duro.of_below HB2.out HW.out)
          have HRs : Hid (Res w w2) := Lib.hid (HRs0.out.duro HD2.out (by omega) (by omega))
          have HBx : Hid (Boxed w2 (w.heap.size + 1 + 1) 23 (.slice av out.length cv)) := Lib.hid (boxed_below HB2.out HB0.out)
          have HRow : Hid (w2.ownsRow W0.heap.size 3 1 (.slice av out.length cv) out.length (out.map (Value.int .i64))) := Lib.hid (row_below HR0.out HB2.out)
          clear HB2 HB0 HR0 HRs0
          have c0 := (HRs.out).b0.cell
          have f0 := (HRs.out).b0.frozen
          have c1 := (HRs.out).b1.cell
          have f1 := (HRs.out).b1.frozen
          have HKf : Hid (KeepsFrom W0.heap.size W ((w2.setCell ⟨w.heap.size, 0, none⟩ (.slice none 0 0)).setCell ⟨w.heap.size + 1, 0, none⟩ (.bool false))) := Lib.hid (HD2.out.keeps.trans (((KeepsOthers.setCell _ _ _).trans (KeepsOthers.setCell _ _ _)).from _))
          have HRf : Hid (Res w ((w2.setCell ⟨w.heap.size, 0, none⟩ (.slice none 0 0)).setCell ⟨w.heap.size + 1, 0, none⟩ (.bool false))) := Lib.hid HRs.out.put
          clear HRs HD2
          gi_wp2
          exact ⟨HKf.out, (⟨HRf.out, HNo.out⟩ : _ ∧ _)⟩
        · obtain ⟨hb1, hb2⟩ := pnum_bd h2
          have HN2 : Hid (∀ w', Below W.heap.size W w' → Calls Tryd.prog 25 #[.string t2] w' fun e w'' => e = .returned (.tuple #[.int .i64 b, .bool true]) ∧ Below w'.heap.size w' w'') := Lib.hid (fun w' hb => by have := hN2 w' hb; unfold NumP at this; rw [h2] at this; exact this)
          rw [h2] at hstep
          have hwr : IntKind.i64.wrap (b - a) = b - a := IntWalk.i64_in _ (by omega)
          by_cases hba : 40 ≤ b - a
          · have HNo : Hid (parF P [] = none) := Lib.hid (by rw [hstep]; simp [hba])
            have hdb : decide (40 ≤ b - a) = true := decide_eq_true hba
            clear hN1 hN2 hstep h1 h2
            gi_wp2_with fail
            refine ⟨trivial, rfl, (CallsIn.inRound l (callsIn_wide.2 HCut.out)).mono ?_⟩
            rintro e w1 ⟨rfl, n1, rfl⟩
            have HB1 : Hid (Below W.heap.size W (W.drewN n1)) := Lib.hid (bel_drewN (Below.refl _ _) n1)
            generalize W.drewN n1 = w1 at *
            gi_wp2_with fail
            refine ⟨trivial, rfl, (CallsIn.inRound l (callsIn_wide.2 (HN1.out _ HB1.out))).mono ?_⟩
            rintro e wa ⟨rfl, b2⟩
            have HB2 : Hid (Below W.heap.size W wa) := Lib.hid (HB1.out.trans (b2.mono HB1.out.size))
            clear b2 HN1 HB1 HCut
            gi_wp2_with fail
            refine ⟨trivial, rfl, (CallsIn.inRound l (callsIn_wide.2 (HN2.out _ HB2.out))).mono ?_⟩
            rintro e w2 ⟨rfl, b3⟩
            have HB3 : Hid (Below W.heap.size W w2) := Lib.hid (HB2.out.trans (b3.mono HB2.out.size))
            clear b3 HN2 HB2
            have HB2 := HB3
            clear HB3
            have HD2 : Hid (Duro W0.heap.size (w.heap.size + 1 + 1) W w2) := Lib.hid (Duro.of_below HB2.out HW.out)
            have HRs : Hid (Res w w2) := Lib.hid (HRs0.out.duro HD2.out (by omega) (by omega))
            have HBx : Hid (Boxed w2 (w.heap.size + 1 + 1) 23 (.slice av out.length cv)) := Lib.hid (boxed_below HB2.out HB0.out)
            have HRow : Hid (w2.ownsRow W0.heap.size 3 1 (.slice av out.length cv) out.length (out.map (Value.int .i64))) := Lib.hid (row_below HR0.out HB2.out)
            clear HB2 HB0 HR0 HRs0
            have hc := HBx.out.cell
            have c0 := (HRs.out).b0.cell
            have f0 := (HRs.out).b0.frozen
            have c1 := (HRs.out).b1.cell
            have f1 := (HRs.out).b1.frozen
            have HKf : Hid (KeepsFrom W0.heap.size W ((w2.setCell ⟨w.heap.size, 0, none⟩ (.slice none 0 0)).setCell ⟨w.heap.size + 1, 0, none⟩ (.bool false))) := Lib.hid (HD2.out.keeps.trans (((KeepsOthers.setCell _ _ _).trans (KeepsOthers.setCell _ _ _)).from _))
            have HRf : Hid (Res w ((w2.setCell ⟨w.heap.size, 0, none⟩ (.slice none 0 0)).setCell ⟨w.heap.size + 1, 0, none⟩ (.bool false))) := Lib.hid HRs.out.put
            clear HRs HD2
            gi_wp2
            exact ⟨HKf.out, (⟨HRf.out, HNo.out⟩ : _ ∧ _)⟩
          · have hdb : decide (40 ≤ b - a) = false := decide_eq_false hba
            by_cases h40 : 40 < out.length
            · have HNo : Hid (parF P [] = none) := Lib.hid (by rw [hstep]; simp [h40])
              have hd40 : decide ((40 : Int) < (out.length : Int)) = true := decide_eq_true (by omega)
              clear hN1 hN2 hstep h1 h2 h40
              gi_wp2_with fail
              refine ⟨trivial, rfl, (CallsIn.inRound l (callsIn_wide.2 HCut.out)).mono ?_⟩
              rintro e w1 ⟨rfl, n1, rfl⟩
              have HB1 : Hid (Below W.heap.size W (W.drewN n1)) := Lib.hid (bel_drewN (Below.refl _ _) n1)
              generalize W.drewN n1 = w1 at *
              gi_wp2_with fail
              refine ⟨trivial, rfl, (CallsIn.inRound l (callsIn_wide.2 (HN1.out _ HB1.out))).mono ?_⟩
              rintro e wa ⟨rfl, b2⟩
              have HB2 : Hid (Below W.heap.size W wa) := Lib.hid (HB1.out.trans (b2.mono HB1.out.size))
              clear b2 HN1 HB1 HCut
              gi_wp2_with fail
              refine ⟨trivial, rfl, (CallsIn.inRound l (callsIn_wide.2 (HN2.out _ HB2.out))).mono ?_⟩
              rintro e w2 ⟨rfl, b3⟩
              have HB3 : Hid (Below W.heap.size W w2) := Lib.hid (HB2.out.trans (b3.mono HB2.out.size))
              clear b3 HN2 HB2
              have HB2 := HB3
              clear HB3
              have HD2 : Hid (Duro W0.heap.size (w.heap.size + 1 + 1) W w2) := Lib.hid (Duro.of_below HB2.out HW.out)
              have HRs : Hid (Res w w2) := Lib.hid (HRs0.out.duro HD2.out (by omega) (by omega))
              have HBx : Hid (Boxed w2 (w.heap.size + 1 + 1) 23 (.slice av out.length cv)) := Lib.hid (boxed_below HB2.out HB0.out)
              have HRow : Hid (w2.ownsRow W0.heap.size 3 1 (.slice av out.length cv) out.length (out.map (Value.int .i64))) := Lib.hid (row_below HR0.out HB2.out)
              clear HB2 HB0 HR0 HRs0
              have hc := HBx.out.cell
              have c0 := (HRs.out).b0.cell
              have f0 := (HRs.out).b0.frozen
              have c1 := (HRs.out).b1.cell
              have f1 := (HRs.out).b1.frozen
              have HKf : Hid (KeepsFrom W0.heap.size W ((w2.setCell ⟨w.heap.size, 0, none⟩ (.slice none 0 0)).setCell ⟨w.heap.size + 1, 0, none⟩ (.bool false))) := Lib.hid (HD2.out.keeps.trans (((KeepsOthers.setCell _ _ _).trans (KeepsOthers.setCell _ _ _)).from _))
              have HRf : Hid (Res w ((w2.setCell ⟨w.heap.size, 0, none⟩ (.slice none 0 0)).setCell ⟨w.heap.size + 1, 0, none⟩ (.bool false))) := Lib.hid HRs.out.put
              clear HRs HD2
              gi_wp2
              exact ⟨HKf.out, (⟨HRf.out, HNo.out⟩ : _ ∧ _)⟩
            · have hlt40 : b < a + 40 := by omega
              have HGo : Hid (parF (P.drop (k + 1)) (out ++ rng a b) = parF P []) := Lib.hid (by rw [hstep]; simp [h40, hba])
              have hd40 : decide ((40 : Int) < (out.length : Int)) = false := decide_eq_false (by omega)
              clear hN1 hN2 hstep h1 h2
              gi_wp2_with fail
              refine ⟨trivial, rfl, (CallsIn.inRound l (callsIn_wide.2 HCut.out)).mono ?_⟩
              rintro e w1 ⟨rfl, n1, rfl⟩
              have HB1 : Hid (Below W.heap.size W (W.drewN n1)) := Lib.hid (bel_drewN (Below.refl _ _) n1)
              generalize W.drewN n1 = w1 at *
              gi_wp2_with fail
              refine ⟨trivial, rfl, (CallsIn.inRound l (callsIn_wide.2 (HN1.out _ HB1.out))).mono ?_⟩
              rintro e wa ⟨rfl, b2⟩
              have HB2 : Hid (Below W.heap.size W wa) := Lib.hid (HB1.out.trans (b2.mono HB1.out.size))
              clear b2 HN1 HB1 HCut
              gi_wp2_with fail
              refine ⟨trivial, rfl, (CallsIn.inRound l (callsIn_wide.2 (HN2.out _ HB2.out))).mono ?_⟩
              rintro e w2 ⟨rfl, b3⟩
              have HB3 : Hid (Below W.heap.size W w2) := Lib.hid (HB2.out.trans (b3.mono HB2.out.size))
              clear b3 HN2 HB2
              have HB2 := HB3
              clear HB3
              have HD2 : Hid (Duro W0.heap.size (w.heap.size + 1 + 1) W w2) := Lib.hid (Duro.of_below HB2.out HW.out)
              have HRs : Hid (Res w w2) := Lib.hid (HRs0.out.duro HD2.out (by omega) (by omega))
              have HBx : Hid (Boxed w2 (w.heap.size + 1 + 1) 23 (.slice av out.length cv)) := Lib.hid (boxed_below HB2.out HB0.out)
              have HRow : Hid (w2.ownsRow W0.heap.size 3 1 (.slice av out.length cv) out.length (out.map (Value.int .i64))) := Lib.hid (row_below HR0.out HB2.out)
              clear HB2 HB0 HR0 HRs0
              have hc := HBx.out.cell
              gi_wp2_with fail
              gi_loopw [12] (fun p wr => ∃ (d : Nat) (v : Value), p = .int .i64 (a + d) ∧ d ≤ 40 ∧ (d = 0 ∨ a + (d : Int) ≤ b + 1) ∧ Hid (Boxed wr (w.heap.size + 1 + 1) 23 v) ∧ Hid (wr.ownsRow W0.heap.size 3 1 v (out.length + d) ((out ++ (rng a b).take d).map (Value.int .i64))) ∧ Hid (Res w wr) ∧ Hid (Duro W0.heap.size (w.heap.size + 1 + 1) W wr)) (fun p _ => (b + 1 - intOf p).toNat)
              case atStart => exact ⟨0, _, by simp, by omega, .inl rfl, HBx, Lib.hid (by simpa using HRow.out), HRs, HD2⟩
              case round =>
                clear HBx HRow HRs HD2 hc
                obtain ⟨d, v, rfl, hd40, hdb, HBx, HRow, HRs, HD⟩ := hrel
                obtain ⟨m, hm⟩ : ∃ m : Int, a + (d : Int) = m := ⟨_, rfl⟩
                have HM := Lib.hid hm
                rw [hm]
                have hlo : W0.heap.size ≤ wr.heap.size := Nat.le_trans hlW HD.out.size
                by_cases hgo : m ≤ b
                · have hd1 : decide (m ≤ b) = true := decide_eq_true hgo
                  have hdd : d + 1 ≤ 40 ∧ a + ((d + 1 : Nat) : Int) ≤ b + 1 := ⟨by omega, by omega⟩
                  have HNew : Hid ((rng a b).take (d + 1) = (rng a b).take d ++ [m]) := Lib.hid (by rw [← hm]; exact rng_take_succ a b d (by omega))
                  have hw1 : IntKind.i64.wrap (m + 1) = m + 1 := IntWalk.i64_in _ (by omega)
                  have hc := HBx.out.cell
                  obtain ⟨i0, hi, hz0, hz1, hz2⟩ := info_parts intInfo
                  clear hm hd40 hdb
                  gi_wp2_with (gi_at_builtin; refine wpListIn_append_own _ rfl _ _ 23 rfl W0.heap.size 3 i0 (.int .i64 0) 1 8 Tryd.underlying23 hi hz0 hz1 hz2 rfl (by decide) _ _ _ rfl (HRow.out.alloc _) ⟨wr.heap.size, 0, none⟩ 1 1 [.int .i64 m] rfl rfl (cell_one_new _ _ _) (by simp [Value.oneCell']) (by unfold maxLen; omega) (by omega) (by simp; omega) ?_; intro v' w5 hown' hgrow _; obtain ⟨g', cap', rfl⟩ := ownsRow_succ hown'; obtain ⟨hv1, hv2, hr2, hk2⟩ := box_appended HBx.out HRow.out hlo (by omega) hown' hgrow; have hc1 := hv1.cell; have hf1 := hv1.frozen; have HV2 := Lib.hid hv2; have HR2 := Lib.hid hr2; have HK2 := Lib.hid hk2; clear hv1 hv2 hr2 hk2 hown' hgrow)
                  go_roundw
                  case rel => exact ⟨d + 1, _, by rw [← HM.out]; go_num, hdd.1, .inr hdd.2, HV2, Lib.hid (by rw [HNew.out, ← List.append_assoc, List.map_append]; exact HR2.out), Lib.hid (HRs.out.duro HK2.out (by omega) (by omega)), Lib.hid (HD.out.trans HK2.out)⟩
                  case measure => have := HM.out; simp [intOf]; omega
                · have hd1 : decide (m ≤ b) = false := decide_eq_false hgo
                  have hlen : (rng a b).length = d := by rw [rng_len]; omega
                  have HTk : Hid ((rng a b).take d = rng a b) := Lib.hid (List.take_of_length_le (by omega))
                  have HLn : Hid ((out ++ rng a b).length = out.length + d) := Lib.hid (by rw [List.length_append, hlen])
                  have HI : Hid (MidP w W0.heap.size P (k + 1) wr) := Lib.hid ⟨HRs.out, v, out ++ rng a b, HBx.out, by rw [HLn.out]; omega, by rw [HLn.out]; have h := HRow.out; rw [HTk.out] at h; exact h, HGo.out⟩
                  clear HBx HRow HRs HTk HLn hlen hm
                  gi_wp2
                  exact ⟨HD.out.keeps, HD.out.still, HI.out⟩
  case done =>
    rintro D W hD ⟨hRs, v, out, hBx, hl, hrow, hpar⟩ hK
    have hlo0 : w.heap.size + 1 < W0.heap.size := by omega
    have hXl : X.length = P.length := by rw [← hP, List.length_map]
    have hPs : P = Lib.splitK sepB 0 s.data.toList.length s.data.toList := by rw [← hP, ← hXX, Lib.splitB_data]; simp; rfl
    have hall : parF P [] = some out := by rw [← hpar, hXl, List.drop_length]; rfl
    have hImp : impI s.data.toList = if s.data.toList = [] ∨ (fmtP out).data.toList ≠ s.data.toList then none else some out := by unfold impI; rw [← hPs, hall]
    obtain ⟨av, cv, hsh⟩ := row_shape hrow
    subst hsh
    have hSl : SlI W (.slice av out.length cv) out := row_sl hrow rfl
    have HF0 := Lib.hid (formatPages_any _ out W hSl (hT.below hRs.low))
    have HBx := Lib.hid hBx
    have HRw := Lib.hid hrow
    have HK0 := Lib.hid hK
    have HRs0 := Lib.hid hRs
    have hDs : D < W.heap.size := (Array.getElem?_eq_some_iff.1 hK).1
    have hwD : w.heap.size ≤ D := by omega
    clear hXl hPs hall hpar hSl hw3 hz3 hzS hsv hXX hP hSeq hRes hr2 hE hM hT HC
    by_cases h0 : s.data.toList = []
    · have hNo : Hid (impI s.data.toList = none) := Lib.hid (by rw [hImp, if_pos (.inl h0)])
      have hbe : (s.toList == ([] : List UInt8)) = true := by rw [ByteArray.toList_eq, h0]; rfl
      have hs0 : s.toList.isEmpty = true := by rw [ByteArray.toList_eq, h0]; rfl
      have HRs := HRs0
      have HK := HK0
      clear hImp h0 HF0 HRs0 HK0 hRs hrow hK hBx HRw
      have c0 := HRs.out.b0.cell
      have f0 := HRs.out.b0.frozen
      have c1 := HRs.out.b1.cell
      have f1 := HRs.out.b1.frozen
      have HRV := Lib.hid ((HRs.out.putV (.slice none 0 0) false).shut (put_held HK.out) (by omega))
      have HK2 := Lib.hid (put_held (n := w.heap.size) (u := .slice none 0 0) (v := .bool false) HK.out)
      clear HRs HK HBx
      gi_wp2
      (refine ⟨trivial, ?_⟩; gi_wp2)
      refine ⟨by simp, .inl ⟨_, _, rfl, run_takeDeferred HK2.out, ?_⟩⟩
      have c0 := HRV.out.b0.cell
      have c1 := HRV.out.b1.cell
      refine ⟨.tuple #[.slice none 0 0, .bool false], ?_, HRV.out.low, .inr ⟨hNo.out, rfl⟩⟩
      simp [results, Tryd.f9, go_sem, c0, c1]
    · have hbe : (s.toList == ([] : List UInt8)) = false := by rw [ByteArray.toList_eq]; simpa using h0
      have hs0 : s.toList.isEmpty = false := by rw [ByteArray.toList_eq]; simpa using h0
      have hc := hBx.cell
      by_cases he : (fmtP out).data.toList = s.data.toList
      · have hYes : Hid (impI s.data.toList = some out) := Lib.hid (by rw [hImp, if_neg (by rintro (h | h); exact h0 h; exact h he)])
        have hok : okPg out = true := (impI_some hYes.out).1
        have h40 := (okPg_at hok).1
        have hne : ((fmtP out).toList == s.toList) = true := by rw [ByteArray.toList_eq, ByteArray.toList_eq]; simpa using he
        generalize fmtP out = r at *
        clear hImp h0 he hok hRs hrow hK hBx
        gi_wp2_with fail
        refine ⟨trivial, rfl, (callsIn_wide.2 HF0.out).mono ?_⟩
        rintro e W1 ⟨rfl, b1⟩
        have HRs := Lib.hid (HRs0.out.below b1)
        have HK : Hid (W1.heap[D]? = some (.deferred (some []))) := Lib.hid ((b1.block D hDs).trans HK0.out)
        have HBx1 := Lib.hid (boxed_below b1 HBx.out)
        have HRw1 := Lib.hid (row_below HRw.out b1)
        clear HRs0 HK0 HBx HRw b1 HF0 hc
        have hc := HBx1.out.cell
        have c0 := HRs.out.b0.cell
        have f0 := HRs.out.b0.frozen
        have c1 := HRs.out.b1.cell
        have f1 := HRs.out.b1.frozen
        have HRV := Lib.hid ((HRs.out.putV (.slice av out.length cv) true).shut (put_held HK.out) hwD)
        have HK2 := Lib.hid (put_held (n := w.heap.size) (u := .slice av out.length cv) (v := .bool true) HK.out)
        have HRw2 := Lib.hid (row_put (u := .slice av out.length cv) (v := .bool true) HRw1.out hlo0 HK.out)
        clear HRs HK HBx1 HRw1
        gi_wp2
        refine ⟨by simp, .inl ⟨_, _, rfl, run_takeDeferred HK2.out, ?_⟩⟩
        have c0 := HRV.out.b0.cell
        have c1 := HRV.out.b1.cell
        refine ⟨.tuple #[.slice av out.length cv, .bool true], ?_, HRV.out.low, .inl ⟨out, _, hYes.out, h40, rfl, row_low HRw2.out (by omega), fun j hj => (HRw2.out.lt j hj).2, Nat.le_refl _⟩⟩
        simp [results, Tryd.f9, go_sem, c0, c1]
      · have hNo : Hid (impI s.data.toList = none) := Lib.hid (by rw [hImp, if_pos (.inr he)])
        have hne : ((fmtP out).toList == s.toList) = false := by rw [ByteArray.toList_eq, ByteArray.toList_eq]; simpa using he
        generalize fmtP out = r at *
        clear hImp h0 he hRs hrow hK hBx HRw
        gi_wp2_with fail
        refine ⟨trivial, rfl, (callsIn_wide.2 HF0.out).mono ?_⟩
        rintro e W1 ⟨rfl, b1⟩
        have HRs := Lib.hid (HRs0.out.below b1)
        have HK : Hid (W1.heap[D]? = some (.deferred (some []))) := Lib.hid ((b1.block D hDs).trans HK0.out)
        clear HRs0 HK0 b1 HF0 hc
        have c0 := HRs.out.b0.cell
        have f0 := HRs.out.b0.frozen
        have c1 := HRs.out.b1.cell
        have f1 := HRs.out.b1.frozen
        have HRV := Lib.hid ((HRs.out.putV (.slice none 0 0) false).shut (put_held HK.out) (by omega))
        have HK2 := Lib.hid (put_held (n := w.heap.size) (u := .slice none 0 0) (v := .bool false) HK.out)
        clear HRs HK HBx
        gi_wp2
        skip
        refine ⟨by simp, .inl ⟨_, _, rfl, run_takeDeferred HK2.out, ?_⟩⟩
        have c0 := HRV.out.b0.cell
        have c1 := HRV.out.b1.cell
        refine ⟨.tuple #[.slice none 0 0, .bool false], ?_, HRV.out.low, .inr ⟨hNo.out, rfl⟩⟩
        simp [results, Tryd.f9, go_sem, c0, c1]
  case stop =>
    rintro D W hD ⟨hRs, hno⟩ hK
    have hImp : impI s.data.toList = none := by
      have hPs : P = Lib.splitK sepB 0 s.data.toList.length s.data.toList := by rw [← hP, ← hXX, Lib.splitB_data]; simp; rfl
      unfold impI
      rw [← hPs, hno]
    have HRV := Lib.hid (hRs.v.shut hK (by omega))
    have HK := Lib.hid hK
    have hNo := Lib.hid hImp
    clear hno hRs hzS hz3 hK hImp
    gi_wp2
    refine ⟨by simp, .inl ⟨_, _, rfl, run_takeDeferred HK.out, ?_⟩⟩
    have c0 := HRV.out.b0.cell
    have c1 := HRV.out.b1.cell
    refine ⟨.tuple #[.slice none 0 0, .bool false], ?_, HRV.out.low, .inr ⟨hNo.out, rfl⟩⟩
    simp [results, Tryd.f9, go_sem, c0, c1]
end Go.Proofs.YtckmkjkckadfjaaDoor
