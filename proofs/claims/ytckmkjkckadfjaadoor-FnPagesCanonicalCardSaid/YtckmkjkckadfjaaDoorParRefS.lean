/- The reference's parsePages. -/
import Derived.Test.YtckmkjkckadfjaaDoorParRef
namespace Go.Proofs.YtckmkjkckadfjaaDoor
open Go.RowKit
set_option maxHeartbeats 4000000
set_option maxRecDepth 100000
set_option linter.unusedVariables false

def GaveR (L : List Int) (w : World) (e : Ending) (w' : World) : Prop := ∃ v, e = .returned v ∧ L.length ≤ 41 ∧ w'.ownsRow w.heap.size 3 1 v L.length (L.map (Value.int .i64)) ∧ Below w.heap.size w w'
theorem parsePages_any (s : ByteArray) (w : World) (hs : s.size ≤ 4611686018427387904) :
    Calls Tryd.prog 26 #[.string s] w (GaveR (specR s.data.toList) w) := by
  have HO0 : Hid ((w.alloc (.cells #[] 3)).ownsRow w.heap.size 3 1 (.slice (some ⟨w.heap.size, 0, none⟩) 0 0) 0 (([] : List Int).map (Value.int .i64))) := Lib.hid (World.ownsRow_lit w #[] 0 (Nat.le_refl _) (Nat.zero_le _) rfl)
  have HB0 : Hid (Below w.heap.size w (w.alloc (.cells #[] 3))) := Lib.hid ((Below.refl _ _).alloc (Nat.le_refl _) _)
  have HC := Lib.hid (ssplit_any s 44 40 (w.alloc (.cells #[] 3)) (by unfold maxLen; omega) (by omega))
  go_enter Tryd.func26, Tryd.ntmps26
  go_wp2_with fail
  refine HC.out.mono ?_
  rintro e w1 ⟨u, X, rfl, hX, oX, b1⟩
  have hb0 := HB0.out.size
  have HO1 : Hid (w1.ownsRow w.heap.size 3 1 (.slice (some ⟨w.heap.size, 0, none⟩) 0 0) 0 (([] : List Int).map (Value.int .i64))) := Lib.hid (row_same HO0.out (fun k hk => b1.block k (HO0.out.lt k hk).2))
  have HX1 : Hid (w1.ownsRow w.heap.size 9 1 u X.length (X.map Value.string)) := Lib.hid (row_low oX hb0)
  have HB1 : Hid (Below w.heap.size w w1) := Lib.hid (HB0.out.trans (b1.mono hb0))
  have hcnt := splitK_count [44] 40 s.data.toList
  have hXb := splitK_le [44] 40 s.data.toList
  obtain ⟨P, hP⟩ : ∃ P, Lib.splitK [44] 0 40 s.data.toList = P := ⟨_, rfl⟩
  have HSpec0 : Hid (refF (P.drop 0) 0 [] = specR s.data.toList) := Lib.hid (by rw [← hP]; rfl)
  rw [hP] at hcnt hXb hX
  have HDrop := Lib.hid (fun i out (h : i < P.length) => refF_drop P i out h)
  have HEnd := Lib.hid (fun i out (h : P.length ≤ i) => refF_end P i out h)
  obtain ⟨n, hn⟩ : ∃ n, X.length = n := ⟨_, rfl⟩
  have hPn : P.length = n := by rw [← hX, List.length_map, hn]
  have HAt : Hid (∀ k, k < n → ∃ x : ByteArray, (X.map Value.string)[k]? = some (.string x) ∧ P.getD k [] = x.data.toList ∧ x.size ≤ s.size) := Lib.hid (fun k hk => by
    refine ⟨X[k]'(by omega), by rw [List.getElem?_map, List.getElem?_eq_getElem (by omega)]; rfl, ?_, ?_⟩
    · rw [← hX, List.getD_eq_getElem?_getD, List.getElem?_map, List.getElem?_eq_getElem (by omega)]; rfl
    · have := hXb (X[k]'(by omega)).data.toList (by rw [← hX]; exact List.mem_map.2 ⟨_, List.getElem_mem _, rfl⟩)
      simpa using this)
  rw [hn] at HX1 oX
  rw [hPn] at HDrop HEnd hcnt
  obtain ⟨aX, cX, rfl⟩ := row_shape oX
  have hn41 : n ≤ 41 := by omega
  clear HC HO0 HB0 oX b1 hb0 hX hXb hP hn hPn hcnt
  go_wp2_with fail
  go_loopw [3, 5] (fun v i wr => ∃ (k : Nat) (out : List Int) (vv : Value), k ≤ n ∧ out.length ≤ 41 ∧ i = .int .i64 k ∧ vv = v ∧ Hid (refF (P.drop k) k out = specR s.data.toList) ∧ Hid (wr.ownsRow w.heap.size 3 1 vv out.length (out.map (Value.int .i64))) ∧ Hid (wr.ownsRow w.heap.size 9 1 (.slice aX n cX) n (X.map Value.string)) ∧ Hid (Below w.heap.size w wr)) (fun _ i _ => n - (intOf i).toNat)
  case atStart => exact ⟨0, [], _, by omega, by simp, rfl, rfl, HSpec0, HO1, HX1, HB1⟩
  case round =>
    clear HO1 HX1 HB1 HSpec0
    obtain ⟨k, out, vv, hk, hol, rfl, rfl, HSp, HO, HX, HB⟩ := hrel
    obtain ⟨av, cv, hsh⟩ := row_shape HO.out
    by_cases hlt : k < n
    · obtain ⟨x, hx, hPx, hxs⟩ := HAt.out k hlt
      obtain ⟨bX, oX, rfl, hbX, hcX⟩ := (ownC_of HX.out).sl.cells (by omega)
      have cX0 := hcX k (by omega)
      rw [hx] at cX0
      have HNx : Hid (refF (P.drop (k + 1)) (k + 1) (refOne out (refS k x.data.toList)) = specR s.data.toList) := Lib.hid (by rw [← hPx, ← HDrop.out k out hlt]; exact HSp.out)
      subst hsh
      clear HSp hcX hx hPx
      by_cases hk0 : 0 < k
      · have hdk : decide ((0 : Int) < (k : Int)) = true := decide_eq_true (by omega)
        have hdk2 : decide (0 < k) = true := decide_eq_true hk0
        by_cases hx0 : 0 < x.size
        · have hdx : decide ((0 : Int) < (x.size : Int)) = true := decide_eq_true (by omega)
          have hdx2 : decide (0 < x.size) = true := decide_eq_true hx0
          have htl0 : refS k x.data.toList = (x.extract 1 x.size).data.toList := by
            unfold refS
            rw [if_pos ⟨hk0, by simpa using hx0⟩, Lib.extract_to_end]
          have hts0 : (x.extract 1 x.size).size ≤ s.size := by simp; omega
          rw [htl0] at HNx
          clear htl0
          go_wp2_with fail
          obtain ⟨t, ht⟩ : ∃ t, x.extract 1 x.size = t := ⟨_, rfl⟩
          rw [ht] at HNx hts0 ⊢
          have htl : t.data.toList = t.data.toList := rfl
          clear ht
          have htb : t.size ≤ 9223372036854775807 := by omega
          refine (ssplit_any t 45 1 _ (by unfold maxLen; omega) (by omega)).mono ?_
          rintro e w5 ⟨u2, Y, rfl, hY, oY, b5⟩
          have HB5 : Hid (Below w.heap.size w w5) := Lib.hid (HB.out.trans (b5.mono HB.out.size))
          have HO5 : Hid (w5.ownsRow w.heap.size 3 1 (.slice av out.length cv) out.length (out.map (Value.int .i64))) := Lib.hid (row_same HO.out (fun k hk => b5.block k (HO.out.lt k hk).2))
          have HX5 : Hid (w5.ownsRow w.heap.size 9 1 (.slice (some ⟨bX, oX, none⟩) n cX) n (X.map Value.string)) := Lib.hid (row_same HX.out (fun k hk => b5.block k (HX.out.lt k hk).2))
          obtain ⟨y1, y2, ⟨hy0, hyl, hys⟩, hrest⟩ := split_two hY
          obtain ⟨aY, cY, rfl⟩ := row_shape oY
          obtain ⟨bY, oy, rfl, hbY, hcY⟩ := (ownC_of oY).sl.cells (by omega)
          have cY0 := hcY 0 (by omega)
          rw [Nat.add_zero, hy0] at cY0
          have hz0 : y1.size ≤ 9223372036854775807 := by omega
          clear b5 HB HO HX oY
          have HT := Lib.hid htl
          clear htl
          rcases hrest with ⟨hr1, hr2⟩ | ⟨hr1, hr2, hr3, hr4⟩
          · rw [hr1] at hcY ⊢
            have HRef : Hid (refOne out t.data.toList = out ++ (if 0 ≤ pI y1.data.toList then (rng (pI y1.data.toList) (pI y1.data.toList)).take (41 - out.length) else [])) := Lib.hid (hr2 out)
            clear hcY hy0 hyl hr1 hr2 hY HT
            go_wp2_with fail
            refine (parseInt_any y1 _ (by unfold maxLen; omega)).mono ?_
            rintro e w6 ⟨rfl, rfl⟩
            obtain ⟨q1, q2⟩ := pI_bd y1.data.toList
            generalize pI y1.data.toList = x at *
            go_wp2_with fail
            go_loopw [3, 10] (fun v i wr => ∃ (d : Nat) (v2 : Value), out.length + d ≤ 41 ∧ (d = 0 ∨ 0 ≤ x) ∧ (d = 0 ∨ x + d ≤ x + 1) ∧ i = .int .i64 (x + d) ∧ v2 = v ∧ Hid (wr.ownsRow w.heap.size 3 1 v2 (out.length + d) ((out ++ (rng x x).take d).map (Value.int .i64))) ∧ Hid (wr.ownsRow w.heap.size 9 1 (.slice (some ⟨bX, oX, none⟩) n cX) n (X.map Value.string)) ∧ Hid (Below w.heap.size w wr)) (fun _ i _ => (x + 42 - intOf i).toNat)
            case atStart => exact ⟨0, _, by omega, .inl rfl, .inl rfl, by simp, rfl, Lib.hid (by simpa using HO5.out), HX5, HB5⟩
            case round =>
              clear HO5 HX5 HB5
              obtain ⟨d, v2, hd41, hd0, hdy, rfl, rfl, HO, HX, HB⟩ := hrel
              have hlo : w.heap.size ≤ wr.heap.size := HB.out.size
              obtain ⟨av, cv, hsh⟩ := row_shape HO.out
              subst hsh
              obtain ⟨m, hm⟩ : ∃ m : Int, x + (d : Int) = m := ⟨_, rfl⟩
              have HM := Lib.hid hm
              obtain ⟨l, hl⟩ : ∃ l, out.length + d = l := ⟨_, rfl⟩
              have HLn := Lib.hid hl
              have hll : l ≤ 41 := by omega
              rw [hl] at HO
              rw [hm, hl]
              by_cases hgo : m ≤ x ∧ 0 ≤ m ∧ l ≤ 40
              · obtain ⟨g1, g2, g3⟩ := hgo
                have HNew : Hid ((rng x x).take (d + 1) = (rng x x).take d ++ [m]) := Lib.hid (by rw [← hm]; exact rng_take_succ x x d (by omega))
                have hdd : (d + 1 = 0 ∨ 0 ≤ x) ∧ (d + 1 = 0 ∨ x + ((d + 1 : Nat) : Int) ≤ x + 1) ∧ out.length + (d + 1) ≤ 41 := ⟨by omega, by omega, by omega⟩
                have HD := Lib.hid hdd
                have hw1 : IntKind.i64.wrap (m + 1) = m + 1 := IntWalk.i64_in _ (by omega)
                clear hm hl hd41 hd0 hdy hdd
                have hd1 : decide (m ≤ x) = true := decide_eq_true g1
                have hd2 : decide (0 ≤ m) = true := decide_eq_true g2
                have hd3 : decide ((l : Int) ≤ 40) = true := decide_eq_true (by omega)
                go_wp2_with (at_builtin; refine wpList_append_int rfl _ _ rfl w.heap.size (.slice av l cv) l (out ++ (rng x x).take d) m HO.out rfl rfl (by omega) hlo ?_; intro v3 w3 h3 gr3; have H3 := Lib.hid h3; have HX3 := Lib.hid (HX.out.kept gr3 (rows_ne HO.out HX.out (by decide))); have HB3 : Hid (Below w.heap.size w w3) := Lib.hid (HB.out.grown gr3 hlo (fun j hj => (HO.out.lt j hj).1)); clear h3 gr3)
                go_roundw
                case rel => exact ⟨d + 1, v3, HD.out.2.2, HD.out.1, HD.out.2.1, by rw [← HM.out]; go_num, rfl, Lib.hid (by rw [HNew.out, ← List.append_assoc, List.map_append, ← Nat.add_assoc, HLn.out]; exact H3.out), HX3, HB3⟩
                case measure => have := HM.out; have := HD.out.2.2; simp [intOf]; omega
              · have HF : Hid (out ++ (rng x x).take d = refOne out t.data.toList) := Lib.hid (by rw [HRef.out]; exact refOne_end x x d out hd41 hd0 (by rw [hm, hl]; exact hgo))
                have hend : (refOne out t.data.toList).length = l := by rw [← HF.out, ← hl, List.length_append, List.length_take, rng_len]; omega
                have HE : Hid (wr.ownsRow w.heap.size 3 1 (.slice av l cv) l ((refOne out t.data.toList).map (Value.int .i64))) := Lib.hid (by rw [← HF.out]; exact HO.out)
                have HEl := Lib.hid hend
                have HSp : Hid (refF (P.drop (k + 1)) (k + 1) (refOne out t.data.toList) = specR s.data.toList) := HNx
                generalize refOne out t.data.toList = out2 at *
                clear hm hl hd41 hd0 hdy HRef HF HO hend
                by_cases g1 : m ≤ x
                · have hd1 : decide (m ≤ x) = true := decide_eq_true g1
                  by_cases g2 : 0 ≤ m
                  · have hd2 : decide (0 ≤ m) = true := decide_eq_true g2
                    have hd3 : decide ((l : Int) ≤ 40) = false := decide_eq_false (by omega)
                    clear g1 g2 hgo
                    go_wp2_with fail
                    go_roundw
                    case rel => exact ⟨k + 1, out2, _, by omega, by rw [HEl.out]; exact hll, by go_num, rfl, HSp, by rw [HEl.out]; exact HE, HX, HB⟩
                    case measure => simp [intOf]; omega
                  · have hd2 : decide (0 ≤ m) = false := decide_eq_false g2
                    clear g1 g2 hgo
                    go_wp2_with fail
                    go_roundw
                    case rel => exact ⟨k + 1, out2, _, by omega, by rw [HEl.out]; exact hll, by go_num, rfl, HSp, by rw [HEl.out]; exact HE, HX, HB⟩
                    case measure => simp [intOf]; omega
                · have hd1 : decide (m ≤ x) = false := decide_eq_false g1
                  clear g1 hgo
                  go_wp2_with fail
                  go_roundw
                  case rel => exact ⟨k + 1, out2, _, by omega, by rw [HEl.out]; exact hll, by go_num, rfl, HSp, by rw [HEl.out]; exact HE, HX, HB⟩
                  case measure => simp [intOf]; omega
          · rw [hr1] at hcY ⊢
            have cY1 := hcY 1 (by omega)
            rw [hr2] at cY1
            have HRef : Hid (refOne out t.data.toList = out ++ (if 0 ≤ pI y1.data.toList then (rng (pI y1.data.toList) (pI y2.data.toList)).take (41 - out.length) else [])) := Lib.hid (hr4 out)
            clear hcY hy0 hyl hr1 hr2 hr4 hY HT
            go_wp2_with fail
            refine (parseInt_any y1 _ (by unfold maxLen; omega)).mono ?_
            rintro e w6 ⟨rfl, rfl⟩
            obtain ⟨q1, q2⟩ := pI_bd y1.data.toList
            generalize pI y1.data.toList = x at *
            go_wp2_with fail
            refine (parseInt_any y2 _ (by unfold maxLen; omega)).mono ?_
            rintro e w7 ⟨rfl, rfl⟩
            obtain ⟨q3, q4⟩ := pI_bd y2.data.toList
            generalize pI y2.data.toList = y at *
            go_wp2_with fail
            go_loopw [3, 10] (fun v i wr => ∃ (d : Nat) (v2 : Value), out.length + d ≤ 41 ∧ (d = 0 ∨ 0 ≤ x) ∧ (d = 0 ∨ x + d ≤ y + 1) ∧ i = .int .i64 (x + d) ∧ v2 = v ∧ Hid (wr.ownsRow w.heap.size 3 1 v2 (out.length + d) ((out ++ (rng x y).take d).map (Value.int .i64))) ∧ Hid (wr.ownsRow w.heap.size 9 1 (.slice (some ⟨bX, oX, none⟩) n cX) n (X.map Value.string)) ∧ Hid (Below w.heap.size w wr)) (fun _ i _ => (x + 42 - intOf i).toNat)
            case atStart => exact ⟨0, _, by omega, .inl rfl, .inl rfl, by simp, rfl, Lib.hid (by simpa using HO5.out), HX5, HB5⟩
            case round =>
              clear HO5 HX5 HB5
              obtain ⟨d, v2, hd41, hd0, hdy, rfl, rfl, HO, HX, HB⟩ := hrel
              have hlo : w.heap.size ≤ wr.heap.size := HB.out.size
              obtain ⟨av, cv, hsh⟩ := row_shape HO.out
              subst hsh
              obtain ⟨m, hm⟩ : ∃ m : Int, x + (d : Int) = m := ⟨_, rfl⟩
              have HM := Lib.hid hm
              obtain ⟨l, hl⟩ : ∃ l, out.length + d = l := ⟨_, rfl⟩
              have HLn := Lib.hid hl
              have hll : l ≤ 41 := by omega
              rw [hl] at HO
              rw [hm, hl]
              by_cases hgo : m ≤ y ∧ 0 ≤ m ∧ l ≤ 40
              · obtain ⟨g1, g2, g3⟩ := hgo
                have HNew : Hid ((rng x y).take (d + 1) = (rng x y).take d ++ [m]) := Lib.hid (by rw [← hm]; exact rng_take_succ x y d (by omega))
                have hdd : (d + 1 = 0 ∨ 0 ≤ x) ∧ (d + 1 = 0 ∨ x + ((d + 1 : Nat) : Int) ≤ y + 1) ∧ out.length + (d + 1) ≤ 41 := ⟨by omega, by omega, by omega⟩
                have HD := Lib.hid hdd
                have hw1 : IntKind.i64.wrap (m + 1) = m + 1 := IntWalk.i64_in _ (by omega)
                clear hm hl hd41 hd0 hdy hdd
                have hd1 : decide (m ≤ y) = true := decide_eq_true g1
                have hd2 : decide (0 ≤ m) = true := decide_eq_true g2
                have hd3 : decide ((l : Int) ≤ 40) = true := decide_eq_true (by omega)
                go_wp2_with (at_builtin; refine wpList_append_int rfl _ _ rfl w.heap.size (.slice av l cv) l (out ++ (rng x y).take d) m HO.out rfl rfl (by omega) hlo ?_; intro v3 w3 h3 gr3; have H3 := Lib.hid h3; have HX3 := Lib.hid (HX.out.kept gr3 (rows_ne HO.out HX.out (by decide))); have HB3 : Hid (Below w.heap.size w w3) := Lib.hid (HB.out.grown gr3 hlo (fun j hj => (HO.out.lt j hj).1)); clear h3 gr3)
                go_roundw
                case rel => exact ⟨d + 1, v3, HD.out.2.2, HD.out.1, HD.out.2.1, by rw [← HM.out]; go_num, rfl, Lib.hid (by rw [HNew.out, ← List.append_assoc, List.map_append, ← Nat.add_assoc, HLn.out]; exact H3.out), HX3, HB3⟩
                case measure => have := HM.out; have := HD.out.2.2; simp [intOf]; omega
              · have HF : Hid (out ++ (rng x y).take d = refOne out t.data.toList) := Lib.hid (by rw [HRef.out]; exact refOne_end x y d out hd41 hd0 (by rw [hm, hl]; exact hgo))
                have hend : (refOne out t.data.toList).length = l := by rw [← HF.out, ← hl, List.length_append, List.length_take, rng_len]; omega
                have HE : Hid (wr.ownsRow w.heap.size 3 1 (.slice av l cv) l ((refOne out t.data.toList).map (Value.int .i64))) := Lib.hid (by rw [← HF.out]; exact HO.out)
                have HEl := Lib.hid hend
                have HSp : Hid (refF (P.drop (k + 1)) (k + 1) (refOne out t.data.toList) = specR s.data.toList) := HNx
                generalize refOne out t.data.toList = out2 at *
                clear hm hl hd41 hd0 hdy HRef HF HO hend
                by_cases g1 : m ≤ y
                · have hd1 : decide (m ≤ y) = true := decide_eq_true g1
                  by_cases g2 : 0 ≤ m
                  · have hd2 : decide (0 ≤ m) = true := decide_eq_true g2
                    have hd3 : decide ((l : Int) ≤ 40) = false := decide_eq_false (by omega)
                    clear g1 g2 hgo
                    go_wp2_with fail
                    go_roundw
                    case rel => exact ⟨k + 1, out2, _, by omega, by rw [HEl.out]; exact hll, by go_num, rfl, HSp, by rw [HEl.out]; exact HE, HX, HB⟩
                    case measure => simp [intOf]; omega
                  · have hd2 : decide (0 ≤ m) = false := decide_eq_false g2
                    clear g1 g2 hgo
                    go_wp2_with fail
                    go_roundw
                    case rel => exact ⟨k + 1, out2, _, by omega, by rw [HEl.out]; exact hll, by go_num, rfl, HSp, by rw [HEl.out]; exact HE, HX, HB⟩
                    case measure => simp [intOf]; omega
                · have hd1 : decide (m ≤ y) = false := decide_eq_false g1
                  clear g1 hgo
                  go_wp2_with fail
                  go_roundw
                  case rel => exact ⟨k + 1, out2, _, by omega, by rw [HEl.out]; exact hll, by go_num, rfl, HSp, by rw [HEl.out]; exact HE, HX, HB⟩
                  case measure => simp [intOf]; omega
        · have hdx : decide ((0 : Int) < (x.size : Int)) = false := decide_eq_false (by omega)
          have hdx2 : decide (0 < x.size) = false := decide_eq_false hx0
          have htl0 : refS k x.data.toList = x.data.toList := by
            unfold refS
            rw [if_neg (by rintro ⟨_, h⟩; exact hx0 (by simpa using h))]
          rw [htl0] at HNx
          clear htl0
          go_wp2_with fail
          obtain ⟨t, ht⟩ : ∃ t, x = t := ⟨_, rfl⟩
          rw [ht] at HNx hxs ⊢
          have htl : t.data.toList = t.data.toList := rfl
          clear ht
          have htb : t.size ≤ 9223372036854775807 := by omega
          refine (ssplit_any t 45 1 _ (by unfold maxLen; omega) (by omega)).mono ?_
          rintro e w5 ⟨u2, Y, rfl, hY, oY, b5⟩
          have HB5 : Hid (Below w.heap.size w w5) := Lib.hid (HB.out.trans (b5.mono HB.out.size))
          have HO5 : Hid (w5.ownsRow w.heap.size 3 1 (.slice av out.length cv) out.length (out.map (Value.int .i64))) := Lib.hid (row_same HO.out (fun k hk => b5.block k (HO.out.lt k hk).2))
          have HX5 : Hid (w5.ownsRow w.heap.size 9 1 (.slice (some ⟨bX, oX, none⟩) n cX) n (X.map Value.string)) := Lib.hid (row_same HX.out (fun k hk => b5.block k (HX.out.lt k hk).2))
          obtain ⟨y1, y2, ⟨hy0, hyl, hys⟩, hrest⟩ := split_two hY
          obtain ⟨aY, cY, rfl⟩ := row_shape oY
          obtain ⟨bY, oy, rfl, hbY, hcY⟩ := (ownC_of oY).sl.cells (by omega)
          have cY0 := hcY 0 (by omega)
          rw [Nat.add_zero, hy0] at cY0
          have hz0 : y1.size ≤ 9223372036854775807 := by omega
          clear b5 HB HO HX oY
          have HT := Lib.hid htl
          clear htl
          rcases hrest with ⟨hr1, hr2⟩ | ⟨hr1, hr2, hr3, hr4⟩
          · rw [hr1] at hcY ⊢
            have HRef : Hid (refOne out t.data.toList = out ++ (if 0 ≤ pI y1.data.toList then (rng (pI y1.data.toList) (pI y1.data.toList)).take (41 - out.length) else [])) := Lib.hid (hr2 out)
            clear hcY hy0 hyl hr1 hr2 hY HT
            go_wp2_with fail
            refine (parseInt_any y1 _ (by unfold maxLen; omega)).mono ?_
            rintro e w6 ⟨rfl, rfl⟩
            obtain ⟨q1, q2⟩ := pI_bd y1.data.toList
            generalize pI y1.data.toList = x at *
            go_wp2_with fail
            go_loopw [3, 10] (fun v i wr => ∃ (d : Nat) (v2 : Value), out.length + d ≤ 41 ∧ (d = 0 ∨ 0 ≤ x) ∧ (d = 0 ∨ x + d ≤ x + 1) ∧ i = .int .i64 (x + d) ∧ v2 = v ∧ Hid (wr.ownsRow w.heap.size 3 1 v2 (out.length + d) ((out ++ (rng x x).take d).map (Value.int .i64))) ∧ Hid (wr.ownsRow w.heap.size 9 1 (.slice (some ⟨bX, oX, none⟩) n cX) n (X.map Value.string)) ∧ Hid (Below w.heap.size w wr)) (fun _ i _ => (x + 42 - intOf i).toNat)
            case atStart => exact ⟨0, _, by omega, .inl rfl, .inl rfl, by simp, rfl, Lib.hid (by simpa using HO5.out), HX5, HB5⟩
            case round =>
              clear HO5 HX5 HB5
              obtain ⟨d, v2, hd41, hd0, hdy, rfl, rfl, HO, HX, HB⟩ := hrel
              have hlo : w.heap.size ≤ wr.heap.size := HB.out.size
              obtain ⟨av, cv, hsh⟩ := row_shape HO.out
              subst hsh
              obtain ⟨m, hm⟩ : ∃ m : Int, x + (d : Int) = m := ⟨_, rfl⟩
              have HM := Lib.hid hm
              obtain ⟨l, hl⟩ : ∃ l, out.length + d = l := ⟨_, rfl⟩
              have HLn := Lib.hid hl
              have hll : l ≤ 41 := by omega
              rw [hl] at HO
              rw [hm, hl]
              by_cases hgo : m ≤ x ∧ 0 ≤ m ∧ l ≤ 40
              · obtain ⟨g1, g2, g3⟩ := hgo
                have HNew : Hid ((rng x x).take (d + 1) = (rng x x).take d ++ [m]) := Lib.hid (by rw [← hm]; exact rng_take_succ x x d (by omega))
                have hdd : (d + 1 = 0 ∨ 0 ≤ x) ∧ (d + 1 = 0 ∨ x + ((d + 1 : Nat) : Int) ≤ x + 1) ∧ out.length + (d + 1) ≤ 41 := ⟨by omega, by omega, by omega⟩
                have HD := Lib.hid hdd
                have hw1 : IntKind.i64.wrap (m + 1) = m + 1 := IntWalk.i64_in _ (by omega)
                clear hm hl hd41 hd0 hdy hdd
                have hd1 : decide (m ≤ x) = true := decide_eq_true g1
                have hd2 : decide (0 ≤ m) = true := decide_eq_true g2
                have hd3 : decide ((l : Int) ≤ 40) = true := decide_eq_true (by omega)
                go_wp2_with (at_builtin; refine wpList_append_int rfl _ _ rfl w.heap.size (.slice av l cv) l (out ++ (rng x x).take d) m HO.out rfl rfl (by omega) hlo ?_; intro v3 w3 h3 gr3; have H3 := Lib.hid h3; have HX3 := Lib.hid (HX.out.kept gr3 (rows_ne HO.out HX.out (by decide))); have HB3 : Hid (Below w.heap.size w w3) := Lib.hid (HB.out.grown gr3 hlo (fun j hj => (HO.out.lt j hj).1)); clear h3 gr3)
                go_roundw
                case rel => exact ⟨d + 1, v3, HD.out.2.2, HD.out.1, HD.out.2.1, by rw [← HM.out]; go_num, rfl, Lib.hid (by rw [HNew.out, ← List.append_assoc, List.map_append, ← Nat.add_assoc, HLn.out]; exact H3.out), HX3, HB3⟩
                case measure => have := HM.out; have := HD.out.2.2; simp [intOf]; omega
              · have HF : Hid (out ++ (rng x x).take d = refOne out t.data.toList) := Lib.hid (by rw [HRef.out]; exact refOne_end x x d out hd41 hd0 (by rw [hm, hl]; exact hgo))
                have hend : (refOne out t.data.toList).length = l := by rw [← HF.out, ← hl, List.length_append, List.length_take, rng_len]; omega
                have HE : Hid (wr.ownsRow w.heap.size 3 1 (.slice av l cv) l ((refOne out t.data.toList).map (Value.int .i64))) := Lib.hid (by rw [← HF.out]; exact HO.out)
                have HEl := Lib.hid hend
                have HSp : Hid (refF (P.drop (k + 1)) (k + 1) (refOne out t.data.toList) = specR s.data.toList) := HNx
                generalize refOne out t.data.toList = out2 at *
                clear hm hl hd41 hd0 hdy HRef HF HO hend
                by_cases g1 : m ≤ x
                · have hd1 : decide (m ≤ x) = true := decide_eq_true g1
                  by_cases g2 : 0 ≤ m
                  · have hd2 : decide (0 ≤ m) = true := decide_eq_true g2
                    have hd3 : decide ((l : Int) ≤ 40) = false := decide_eq_false (by omega)
                    clear g1 g2 hgo
                    go_wp2_with fail
                    go_roundw
                    case rel => exact ⟨k + 1, out2, _, by omega, by rw [HEl.out]; exact hll, by go_num, rfl, HSp, by rw [HEl.out]; exact HE, HX, HB⟩
                    case measure => simp [intOf]; omega
                  · have hd2 : decide (0 ≤ m) = false := decide_eq_false g2
                    clear g1 g2 hgo
                    go_wp2_with fail
                    go_roundw
                    case rel => exact ⟨k + 1, out2, _, by omega, by rw [HEl.out]; exact hll, by go_num, rfl, HSp, by rw [HEl.out]; exact HE, HX, HB⟩
                    case measure => simp [intOf]; omega
                · have hd1 : decide (m ≤ x) = false := decide_eq_false g1
                  clear g1 hgo
                  go_wp2_with fail
                  go_roundw
                  case rel => exact ⟨k + 1, out2, _, by omega, by rw [HEl.out]; exact hll, by go_num, rfl, HSp, by rw [HEl.out]; exact HE, HX, HB⟩
                  case measure => simp [intOf]; omega
          · rw [hr1] at hcY ⊢
            have cY1 := hcY 1 (by omega)
            rw [hr2] at cY1
            have HRef : Hid (refOne out t.data.toList = out ++ (if 0 ≤ pI y1.data.toList then (rng (pI y1.data.toList) (pI y2.data.toList)).take (41 - out.length) else [])) := Lib.hid (hr4 out)
            clear hcY hy0 hyl hr1 hr2 hr4 hY HT
            go_wp2_with fail
            refine (parseInt_any y1 _ (by unfold maxLen; omega)).mono ?_
            rintro e w6 ⟨rfl, rfl⟩
            obtain ⟨q1, q2⟩ := pI_bd y1.data.toList
            generalize pI y1.data.toList = x at *
            go_wp2_with fail
            refine (parseInt_any y2 _ (by unfold maxLen; omega)).mono ?_
            rintro e w7 ⟨rfl, rfl⟩
            obtain ⟨q3, q4⟩ := pI_bd y2.data.toList
            generalize pI y2.data.toList = y at *
            go_wp2_with fail
            go_loopw [3, 10] (fun v i wr => ∃ (d : Nat) (v2 : Value), out.length + d ≤ 41 ∧ (d = 0 ∨ 0 ≤ x) ∧ (d = 0 ∨ x + d ≤ y + 1) ∧ i = .int .i64 (x + d) ∧ v2 = v ∧ Hid (wr.ownsRow w.heap.size 3 1 v2 (out.length + d) ((out ++ (rng x y).take d).map (Value.int .i64))) ∧ Hid (wr.ownsRow w.heap.size 9 1 (.slice (some ⟨bX, oX, none⟩) n cX) n (X.map Value.string)) ∧ Hid (Below w.heap.size w wr)) (fun _ i _ => (x + 42 - intOf i).toNat)
            case atStart => exact ⟨0, _, by omega, .inl rfl, .inl rfl, by simp, rfl, Lib.hid (by simpa using HO5.out), HX5, HB5⟩
            case round =>
              clear HO5 HX5 HB5
              obtain ⟨d, v2, hd41, hd0, hdy, rfl, rfl, HO, HX, HB⟩ := hrel
              have hlo : w.heap.size ≤ wr.heap.size := HB.out.size
              obtain ⟨av, cv, hsh⟩ := row_shape HO.out
              subst hsh
              obtain ⟨m, hm⟩ : ∃ m : Int, x + (d : Int) = m := ⟨_, rfl⟩
              have HM := Lib.hid hm
              obtain ⟨l, hl⟩ : ∃ l, out.length + d = l := ⟨_, rfl⟩
              have HLn := Lib.hid hl
              have hll : l ≤ 41 := by omega
              rw [hl] at HO
              rw [hm, hl]
              by_cases hgo : m ≤ y ∧ 0 ≤ m ∧ l ≤ 40
              · obtain ⟨g1, g2, g3⟩ := hgo
                have HNew : Hid ((rng x y).take (d + 1) = (rng x y).take d ++ [m]) := Lib.hid (by rw [← hm]; exact rng_take_succ x y d (by omega))
                have hdd : (d + 1 = 0 ∨ 0 ≤ x) ∧ (d + 1 = 0 ∨ x + ((d + 1 : Nat) : Int) ≤ y + 1) ∧ out.length + (d + 1) ≤ 41 := ⟨by omega, by omega, by omega⟩
                have HD := Lib.hid hdd
                have hw1 : IntKind.i64.wrap (m + 1) = m + 1 := IntWalk.i64_in _ (by omega)
                clear hm hl hd41 hd0 hdy hdd
                have hd1 : decide (m ≤ y) = true := decide_eq_true g1
                have hd2 : decide (0 ≤ m) = true := decide_eq_true g2
                have hd3 : decide ((l : Int) ≤ 40) = true := decide_eq_true (by omega)
                go_wp2_with (at_builtin; refine wpList_append_int rfl _ _ rfl w.heap.size (.slice av l cv) l (out ++ (rng x y).take d) m HO.out rfl rfl (by omega) hlo ?_; intro v3 w3 h3 gr3; have H3 := Lib.hid h3; have HX3 := Lib.hid (HX.out.kept gr3 (rows_ne HO.out HX.out (by decide))); have HB3 : Hid (Below w.heap.size w w3) := Lib.hid (HB.out.grown gr3 hlo (fun j hj => (HO.out.lt j hj).1)); clear h3 gr3)
                go_roundw
                case rel => exact ⟨d + 1, v3, HD.out.2.2, HD.out.1, HD.out.2.1, by rw [← HM.out]; go_num, rfl, Lib.hid (by rw [HNew.out, ← List.append_assoc, List.map_append, ← Nat.add_assoc, HLn.out]; exact H3.out), HX3, HB3⟩
                case measure => have := HM.out; have := HD.out.2.2; simp [intOf]; omega
              · have HF : Hid (out ++ (rng x y).take d = refOne out t.data.toList) := Lib.hid (by rw [HRef.out]; exact refOne_end x y d out hd41 hd0 (by rw [hm, hl]; exact hgo))
                have hend : (refOne out t.data.toList).length = l := by rw [← HF.out, ← hl, List.length_append, List.length_take, rng_len]; omega
                have HE : Hid (wr.ownsRow w.heap.size 3 1 (.slice av l cv) l ((refOne out t.data.toList).map (Value.int .i64))) := Lib.hid (by rw [← HF.out]; exact HO.out)
                have HEl := Lib.hid hend
                have HSp : Hid (refF (P.drop (k + 1)) (k + 1) (refOne out t.data.toList) = specR s.data.toList) := HNx
                generalize refOne out t.data.toList = out2 at *
                clear hm hl hd41 hd0 hdy HRef HF HO hend
                by_cases g1 : m ≤ y
                · have hd1 : decide (m ≤ y) = true := decide_eq_true g1
                  by_cases g2 : 0 ≤ m
                  · have hd2 : decide (0 ≤ m) = true := decide_eq_true g2
                    have hd3 : decide ((l : Int) ≤ 40) = false := decide_eq_false (by omega)
                    clear g1 g2 hgo
                    go_wp2_with fail
                    go_roundw
                    case rel => exact ⟨k + 1, out2, _, by omega, by rw [HEl.out]; exact hll, by go_num, rfl, HSp, by rw [HEl.out]; exact HE, HX, HB⟩
                    case measure => simp [intOf]; omega
                  · have hd2 : decide (0 ≤ m) = false := decide_eq_false g2
                    clear g1 g2 hgo
                    go_wp2_with fail
                    go_roundw
                    case rel => exact ⟨k + 1, out2, _, by omega, by rw [HEl.out]; exact hll, by go_num, rfl, HSp, by rw [HEl.out]; exact HE, HX, HB⟩
                    case measure => simp [intOf]; omega
                · have hd1 : decide (m ≤ y) = false := decide_eq_false g1
                  clear g1 hgo
                  go_wp2_with fail
                  go_roundw
                  case rel => exact ⟨k + 1, out2, _, by omega, by rw [HEl.out]; exact hll, by go_num, rfl, HSp, by rw [HEl.out]; exact HE, HX, HB⟩
                  case measure => simp [intOf]; omega
      · have hdk : decide ((0 : Int) < (k : Int)) = false := decide_eq_false (by omega)
        have hdk2 : decide (0 < k) = false := decide_eq_false hk0
        have htl0 : refS k x.data.toList = x.data.toList := by
          unfold refS
          rw [if_neg (by rintro ⟨h, _⟩; exact hk0 h)]
        rw [htl0] at HNx
        clear htl0
        go_wp2_with fail
        obtain ⟨t, ht⟩ : ∃ t, x = t := ⟨_, rfl⟩
        rw [ht] at HNx hxs ⊢
        have htl : t.data.toList = t.data.toList := rfl
        clear ht
        have htb : t.size ≤ 9223372036854775807 := by omega
        refine (ssplit_any t 45 1 _ (by unfold maxLen; omega) (by omega)).mono ?_
        rintro e w5 ⟨u2, Y, rfl, hY, oY, b5⟩
        have HB5 : Hid (Below w.heap.size w w5) := Lib.hid (HB.out.trans (b5.mono HB.out.size))
        have HO5 : Hid (w5.ownsRow w.heap.size 3 1 (.slice av out.length cv) out.length (out.map (Value.int .i64))) := Lib.hid (row_same HO.out (fun k hk => b5.block k (HO.out.lt k hk).2))
        have HX5 : Hid (w5.ownsRow w.heap.size 9 1 (.slice (some ⟨bX, oX, none⟩) n cX) n (X.map Value.string)) := Lib.hid (row_same HX.out (fun k hk => b5.block k (HX.out.lt k hk).2))
        obtain ⟨y1, y2, ⟨hy0, hyl, hys⟩, hrest⟩ := split_two hY
        obtain ⟨aY, cY, rfl⟩ := row_shape oY
        obtain ⟨bY, oy, rfl, hbY, hcY⟩ := (ownC_of oY).sl.cells (by omega)
        have cY0 := hcY 0 (by omega)
        rw [Nat.add_zero, hy0] at cY0
        have hz0 : y1.size ≤ 9223372036854775807 := by omega
        clear b5 HB HO HX oY
        have HT := Lib.hid htl
        clear htl
        rcases hrest with ⟨hr1, hr2⟩ | ⟨hr1, hr2, hr3, hr4⟩
        · rw [hr1] at hcY ⊢
          have HRef : Hid (refOne out t.data.toList = out ++ (if 0 ≤ pI y1.data.toList then (rng (pI y1.data.toList) (pI y1.data.toList)).take (41 - out.length) else [])) := Lib.hid (hr2 out)
          clear hcY hy0 hyl hr1 hr2 hY HT
          go_wp2_with fail
          refine (parseInt_any y1 _ (by unfold maxLen; omega)).mono ?_
          rintro e w6 ⟨rfl, rfl⟩
          obtain ⟨q1, q2⟩ := pI_bd y1.data.toList
          generalize pI y1.data.toList = x at *
          go_wp2_with fail
          go_loopw [3, 10] (fun v i wr => ∃ (d : Nat) (v2 : Value), out.length + d ≤ 41 ∧ (d = 0 ∨ 0 ≤ x) ∧ (d = 0 ∨ x + d ≤ x + 1) ∧ i = .int .i64 (x + d) ∧ v2 = v ∧ Hid (wr.ownsRow w.heap.size 3 1 v2 (out.length + d) ((out ++ (rng x x).take d).map (Value.int .i64))) ∧ Hid (wr.ownsRow w.heap.size 9 1 (.slice (some ⟨bX, oX, none⟩) n cX) n (X.map Value.string)) ∧ Hid (Below w.heap.size w wr)) (fun _ i _ => (x + 42 - intOf i).toNat)
          case atStart => exact ⟨0, _, by omega, .inl rfl, .inl rfl, by simp, rfl, Lib.hid (by simpa using HO5.out), HX5, HB5⟩
          case round =>
            clear HO5 HX5 HB5
            obtain ⟨d, v2, hd41, hd0, hdy, rfl, rfl, HO, HX, HB⟩ := hrel
            have hlo : w.heap.size ≤ wr.heap.size := HB.out.size
            obtain ⟨av, cv, hsh⟩ := row_shape HO.out
            subst hsh
            obtain ⟨m, hm⟩ : ∃ m : Int, x + (d : Int) = m := ⟨_, rfl⟩
            have HM := Lib.hid hm
            obtain ⟨l, hl⟩ : ∃ l, out.length + d = l := ⟨_, rfl⟩
            have HLn := Lib.hid hl
            have hll : l ≤ 41 := by omega
            rw [hl] at HO
            rw [hm, hl]
            by_cases hgo : m ≤ x ∧ 0 ≤ m ∧ l ≤ 40
            · obtain ⟨g1, g2, g3⟩ := hgo
              have HNew : Hid ((rng x x).take (d + 1) = (rng x x).take d ++ [m]) := Lib.hid (by rw [← hm]; exact rng_take_succ x x d (by omega))
              have hdd : (d + 1 = 0 ∨ 0 ≤ x) ∧ (d + 1 = 0 ∨ x + ((d + 1 : Nat) : Int) ≤ x + 1) ∧ out.length + (d + 1) ≤ 41 := ⟨by omega, by omega, by omega⟩
              have HD := Lib.hid hdd
              have hw1 : IntKind.i64.wrap (m + 1) = m + 1 := IntWalk.i64_in _ (by omega)
              clear hm hl hd41 hd0 hdy hdd
              have hd1 : decide (m ≤ x) = true := decide_eq_true g1
              have hd2 : decide (0 ≤ m) = true := decide_eq_true g2
              have hd3 : decide ((l : Int) ≤ 40) = true := decide_eq_true (by omega)
              go_wp2_with (at_builtin; refine wpList_append_int rfl _ _ rfl w.heap.size (.slice av l cv) l (out ++ (rng x x).take d) m HO.out rfl rfl (by omega) hlo ?_; intro v3 w3 h3 gr3; have H3 := Lib.hid h3; have HX3 := Lib.hid (HX.out.kept gr3 (rows_ne HO.out HX.out (by decide))); have HB3 : Hid (Below w.heap.size w w3) := Lib.hid (HB.out.grown gr3 hlo (fun j hj => (HO.out.lt j hj).1)); clear h3 gr3)
              go_roundw
              case rel => exact ⟨d + 1, v3, HD.out.2.2, HD.out.1, HD.out.2.1, by rw [← HM.out]; go_num, rfl, Lib.hid (by rw [HNew.out, ← List.append_assoc, List.map_append, ← Nat.add_assoc, HLn.out]; exact H3.out), HX3, HB3⟩
              case measure => have := HM.out; have := HD.out.2.2; simp [intOf]; omega
            · have HF : Hid (out ++ (rng x x).take d = refOne out t.data.toList) := Lib.hid (by rw [HRef.out]; exact refOne_end x x d out hd41 hd0 (by rw [hm, hl]; exact hgo))
              have hend : (refOne out t.data.toList).length = l := by rw [← HF.out, ← hl, List.length_append, List.length_take, rng_len]; omega
              have HE : Hid (wr.ownsRow w.heap.size 3 1 (.slice av l cv) l ((refOne out t.data.toList).map (Value.int .i64))) := Lib.hid (by rw [← HF.out]; exact HO.out)
              have HEl := Lib.hid hend
              have HSp : Hid (refF (P.drop (k + 1)) (k + 1) (refOne out t.data.toList) = specR s.data.toList) := HNx
              generalize refOne out t.data.toList = out2 at *
              clear hm hl hd41 hd0 hdy HRef HF HO hend
              by_cases g1 : m ≤ x
              · have hd1 : decide (m ≤ x) = true := decide_eq_true g1
                by_cases g2 : 0 ≤ m
                · have hd2 : decide (0 ≤ m) = true := decide_eq_true g2
                  have hd3 : decide ((l : Int) ≤ 40) = false := decide_eq_false (by omega)
                  clear g1 g2 hgo
                  go_wp2_with fail
                  go_roundw
                  case rel => exact ⟨k + 1, out2, _, by omega, by rw [HEl.out]; exact hll, by go_num, rfl, HSp, by rw [HEl.out]; exact HE, HX, HB⟩
                  case measure => simp [intOf]; omega
                · have hd2 : decide (0 ≤ m) = false := decide_eq_false g2
                  clear g1 g2 hgo
                  go_wp2_with fail
                  go_roundw
                  case rel => exact ⟨k + 1, out2, _, by omega, by rw [HEl.out]; exact hll, by go_num, rfl, HSp, by rw [HEl.out]; exact HE, HX, HB⟩
                  case measure => simp [intOf]; omega
              · have hd1 : decide (m ≤ x) = false := decide_eq_false g1
                clear g1 hgo
                go_wp2_with fail
                go_roundw
                case rel => exact ⟨k + 1, out2, _, by omega, by rw [HEl.out]; exact hll, by go_num, rfl, HSp, by rw [HEl.out]; exact HE, HX, HB⟩
                case measure => simp [intOf]; omega
        · rw [hr1] at hcY ⊢
          have cY1 := hcY 1 (by omega)
          rw [hr2] at cY1
          have HRef : Hid (refOne out t.data.toList = out ++ (if 0 ≤ pI y1.data.toList then (rng (pI y1.data.toList) (pI y2.data.toList)).take (41 - out.length) else [])) := Lib.hid (hr4 out)
          clear hcY hy0 hyl hr1 hr2 hr4 hY HT
          go_wp2_with fail
          refine (parseInt_any y1 _ (by unfold maxLen; omega)).mono ?_
          rintro e w6 ⟨rfl, rfl⟩
          obtain ⟨q1, q2⟩ := pI_bd y1.data.toList
          generalize pI y1.data.toList = x at *
          go_wp2_with fail
          refine (parseInt_any y2 _ (by unfold maxLen; omega)).mono ?_
          rintro e w7 ⟨rfl, rfl⟩
          obtain ⟨q3, q4⟩ := pI_bd y2.data.toList
          generalize pI y2.data.toList = y at *
          go_wp2_with fail
          go_loopw [3, 10] (fun v i wr => ∃ (d : Nat) (v2 : Value), out.length + d ≤ 41 ∧ (d = 0 ∨ 0 ≤ x) ∧ (d = 0 ∨ x + d ≤ y + 1) ∧ i = .int .i64 (x + d) ∧ v2 = v ∧ Hid (wr.ownsRow w.heap.size 3 1 v2 (out.length + d) ((out ++ (rng x y).take d).map (Value.int .i64))) ∧ Hid (wr.ownsRow w.heap.size 9 1 (.slice (some ⟨bX, oX, none⟩) n cX) n (X.map Value.string)) ∧ Hid (Below w.heap.size w wr)) (fun _ i _ => (x + 42 - intOf i).toNat)
          case atStart => exact ⟨0, _, by omega, .inl rfl, .inl rfl, by simp, rfl, Lib.hid (by simpa using HO5.out), HX5, HB5⟩
          case round =>
            clear HO5 HX5 HB5
            obtain ⟨d, v2, hd41, hd0, hdy, rfl, rfl, HO, HX, HB⟩ := hrel
            have hlo : w.heap.size ≤ wr.heap.size := HB.out.size
            obtain ⟨av, cv, hsh⟩ := row_shape HO.out
            subst hsh
            obtain ⟨m, hm⟩ : ∃ m : Int, x + (d : Int) = m := ⟨_, rfl⟩
            have HM := Lib.hid hm
            obtain ⟨l, hl⟩ : ∃ l, out.length + d = l := ⟨_, rfl⟩
            have HLn := Lib.hid hl
            have hll : l ≤ 41 := by omega
            rw [hl] at HO
            rw [hm, hl]
            by_cases hgo : m ≤ y ∧ 0 ≤ m ∧ l ≤ 40
            · obtain ⟨g1, g2, g3⟩ := hgo
              have HNew : Hid ((rng x y).take (d + 1) = (rng x y).take d ++ [m]) := Lib.hid (by rw [← hm]; exact rng_take_succ x y d (by omega))
              have hdd : (d + 1 = 0 ∨ 0 ≤ x) ∧ (d + 1 = 0 ∨ x + ((d + 1 : Nat) : Int) ≤ y + 1) ∧ out.length + (d + 1) ≤ 41 := ⟨by omega, by omega, by omega⟩
              have HD := Lib.hid hdd
              have hw1 : IntKind.i64.wrap (m + 1) = m + 1 := IntWalk.i64_in _ (by omega)
              clear hm hl hd41 hd0 hdy hdd
              have hd1 : decide (m ≤ y) = true := decide_eq_true g1
              have hd2 : decide (0 ≤ m) = true := decide_eq_true g2
              have hd3 : decide ((l : Int) ≤ 40) = true := decide_eq_true (by omega)
              go_wp2_with (at_builtin; refine wpList_append_int rfl _ _ rfl w.heap.size (.slice av l cv) l (out ++ (rng x y).take d) m HO.out rfl rfl (by omega) hlo ?_; intro v3 w3 h3 gr3; have H3 := Lib.hid h3; have HX3 := Lib.hid (HX.out.kept gr3 (rows_ne HO.out HX.out (by decide))); have HB3 : Hid (Below w.heap.size w w3) := Lib.hid (HB.out.grown gr3 hlo (fun j hj => (HO.out.lt j hj).1)); clear h3 gr3)
              go_roundw
              case rel => exact ⟨d + 1, v3, HD.out.2.2, HD.out.1, HD.out.2.1, by rw [← HM.out]; go_num, rfl, Lib.hid (by rw [HNew.out, ← List.append_assoc, List.map_append, ← Nat.add_assoc, HLn.out]; exact H3.out), HX3, HB3⟩
              case measure => have := HM.out; have := HD.out.2.2; simp [intOf]; omega
            · have HF : Hid (out ++ (rng x y).take d = refOne out t.data.toList) := Lib.hid (by rw [HRef.out]; exact refOne_end x y d out hd41 hd0 (by rw [hm, hl]; exact hgo))
              have hend : (refOne out t.data.toList).length = l := by rw [← HF.out, ← hl, List.length_append, List.length_take, rng_len]; omega
              have HE : Hid (wr.ownsRow w.heap.size 3 1 (.slice av l cv) l ((refOne out t.data.toList).map (Value.int .i64))) := Lib.hid (by rw [← HF.out]; exact HO.out)
              have HEl := Lib.hid hend
              have HSp : Hid (refF (P.drop (k + 1)) (k + 1) (refOne out t.data.toList) = specR s.data.toList) := HNx
              generalize refOne out t.data.toList = out2 at *
              clear hm hl hd41 hd0 hdy HRef HF HO hend
              by_cases g1 : m ≤ y
              · have hd1 : decide (m ≤ y) = true := decide_eq_true g1
                by_cases g2 : 0 ≤ m
                · have hd2 : decide (0 ≤ m) = true := decide_eq_true g2
                  have hd3 : decide ((l : Int) ≤ 40) = false := decide_eq_false (by omega)
                  clear g1 g2 hgo
                  go_wp2_with fail
                  go_roundw
                  case rel => exact ⟨k + 1, out2, _, by omega, by rw [HEl.out]; exact hll, by go_num, rfl, HSp, by rw [HEl.out]; exact HE, HX, HB⟩
                  case measure => simp [intOf]; omega
                · have hd2 : decide (0 ≤ m) = false := decide_eq_false g2
                  clear g1 g2 hgo
                  go_wp2_with fail
                  go_roundw
                  case rel => exact ⟨k + 1, out2, _, by omega, by rw [HEl.out]; exact hll, by go_num, rfl, HSp, by rw [HEl.out]; exact HE, HX, HB⟩
                  case measure => simp [intOf]; omega
              · have hd1 : decide (m ≤ y) = false := decide_eq_false g1
                clear g1 hgo
                go_wp2_with fail
                go_roundw
                case rel => exact ⟨k + 1, out2, _, by omega, by rw [HEl.out]; exact hll, by go_num, rfl, HSp, by rw [HEl.out]; exact HE, HX, HB⟩
                case measure => simp [intOf]; omega
    · have hkn : k = n := by omega
      have HE : Hid (out = specR s.data.toList) := Lib.hid (by rw [← HSp.out, HEnd.out k out (by omega)])
      have HF : Hid (GaveR (specR s.data.toList) w (.returned vv) wr) := Lib.hid ⟨vv, rfl, by rw [← HE.out]; exact hol, by rw [← HE.out]; exact HO.out, HB.out⟩
      subst hsh
      clear HSp HE HO HDrop HEnd HAt hol
      go_wp2_with fail
      go_ret
      exact HF.out
end Go.Proofs.YtckmkjkckadfjaaDoor
