/- ResolvePages of both. -/
import Derived.Test.YtgppljadkpoklaaDoorRefChk
import Derived.OwnWalk
namespace Go.Proofs.YtgppljadkpoklaaDoor
open Go.RowKit
set_option maxHeartbeats 2000000
set_option maxRecDepth 100000

def resL (B : List Blk) (n : Int) : List Int := ((resS B n).map (·.1)).getD []
def resM (B : List Blk) (n : Int) : Nat := ((resS B n).map (·.2)).getD 0
def resB (B : List Blk) (n : Int) : Bool := (resS B n).isSome
/-- What ResolvePages returns. -/
def Resolved (B : List Blk) (n : Int) (w : World) (e : Ending) (w' : World) : Prop :=
  ∃ v, e = .returned (.tuple #[v, .int .i64 (resM B n), .bool (resB B n)]) ∧ OwnI w.heap.size w'.heap.size w' v (resL B n) ∧ Below w.heap.size w w'
theorem Resolved.no {B : List Blk} {n : Int} {w w' : World} {e : Ending} (hf : resS B n = none) (hb : Below w.heap.size w w') (he : e = .returned (.tuple #[.slice none 0 0, .int .i64 0, .bool false])) : Resolved B n w e w' := by
  refine ⟨.slice none 0 0, ?_, ?_, hb⟩
  · unfold resM resB; rw [hf]; exact he
  · unfold resL; rw [hf]
    exact ⟨⟨rfl, .inl ⟨rfl, rfl⟩⟩, fun g hg => by simp [Value.ownBlock] at hg, Nat.le_refl _⟩
theorem Resolved.yes {B : List Blk} {n : Int} {w w' : World} {e : Ending} {K : List Int} {m : Nat} {v : Value} (hf : resS B n = some (K, m)) (hb : Below w.heap.size w w') (ho : OwnI w.heap.size w'.heap.size w' v K) (he : e = .returned (.tuple #[v, .int .i64 m, .bool true])) : Resolved B n w e w' := by
  refine ⟨v, ?_, ?_, hb⟩
  · unfold resM resB; rw [hf]; exact he
  · unfold resL; rw [hf]; exact ho
theorem resGo_hit {f : List Int → List Int} {r n : Nat} {K : List Int} (hr : 0 < r) (h : f K = K) : resGo f r n K = some (K, n) := by
  obtain ⟨r, rfl⟩ : ∃ q, r = q + 1 := ⟨r - 1, by omega⟩
  rw [resGo, if_pos h]
theorem resGo_miss {f : List Int → List Int} {r n : Nat} {K : List Int} (hr : 0 < r) (h : ¬ f K = K) : resGo f r n K = resGo f (r - 1) (n + 1) (f K) := by
  obtain ⟨r, rfl⟩ : ∃ q, r = q + 1 := ⟨r - 1, by omega⟩
  rw [resGo, if_neg h]; rfl

theorem resolvePages_any (v : Value) (B : List Blk) (n : Int) (w : World) (h : SlB w v B) (hT : Pow10 w) :
    Calls Tryd.prog 26 #[v, .int .i64 n] w (Resolved B n w) := by
  have HW := Lib.hid h
  have HT := Lib.hid hT
  clear h hT
  cases hok : okB B with
  | false =>
    have HE : Hid (resS B n = none) := Lib.hid (by unfold resS; rw [if_neg (fun x => by rw [hok] at x; cases x.1)])
    go_enter Tryd.func26, Tryd.ntmps26
    go_wp2_with fail
    refine (validBlocks_any _ B _ HW.out).mono ?_
    rintro e w1 ⟨rfl, b1⟩
    go_wp2_with fail
    first | go_ret3 | go_ret2
    exact Resolved.no HE.out b1 rfl
  | true =>
    by_cases hn : 1 ≤ n ∧ n ≤ 40
    · have hd : decide (1 ≤ n ∧ n ≤ 40) = true := decide_eq_true hn
      obtain ⟨ln, rfl⟩ := Int.eq_ofNat_of_zero_le (show 0 ≤ n by omega)
      have hn1 : 1 ≤ ln := by omega
      have hn2 : ln ≤ 40 := by omega
      have HR0 : Hid (resGo (nextF B ln) (21 - 1) 1 zeroK = resS B (ln : Int)) := Lib.hid (by unfold resS; rw [if_pos ⟨hok, hn⟩, Int.toNat_natCast])
      have HZ : Hid (okK zeroK = true) := Lib.hid zeroK_ok
      clear hn
      go_enter Tryd.func26, Tryd.ntmps26
      go_wp2_with fail
      refine (validBlocks_any _ B _ HW.out).mono ?_
      rintro e w1 ⟨rfl, b1⟩
      go_wp2_with fail
      refine (within_any _ _ _ _).mono ?_
      rintro e w2 ⟨rfl, rfl⟩
      obtain ⟨w2, hmk, hown, hb2⟩ := make_ten w1
      have HO0 : Hid (OwnI w.heap.size w2.heap.size w2 (.slice (some ⟨w1.heap.size, 0, none⟩) 10 10) zeroK) := Lib.hid ((own_rowD (L := zeroK) hown rfl).mono b1.size (Nat.le_refl _) (Nat.le_refl _))
      have HB0 := Lib.hid (b1.trans (hb2.mono b1.size))
      clear hown hb2 b1
      go_wp2_with fail
      go_loopw [7, 8] (fun kv r wr => ∃ (m : Nat) (K : List Int) (x : Value), x = kv ∧ 1 ≤ m ∧ m ≤ 21 ∧ r = .int .i64 m ∧ Hid (okK K = true) ∧ Hid (Below w.heap.size w wr) ∧ Hid (OwnI w.heap.size wr.heap.size wr kv K) ∧ Hid (resGo (nextF B ln) (21 - m) m K = resS B (ln : Int))) (fun _ r _ => 21 - (intOf r).toNat)
      case atStart => exact ⟨1, zeroK, _, rfl, by omega, by omega, rfl, HZ, HB0, HO0, HR0⟩
      case round =>
        clear HO0 HB0 HR0 HZ
        obtain ⟨m, K, kv, rfl, hm1, hm2, rfl, HK, HB, HO, HG⟩ := hrel
        by_cases hlt : m ≤ 20
        · have hd1 : decide (m ≤ 20) = true := decide_eq_true hlt
          have hd2 : decide ((m : Int) ≤ 20) = true := decide_eq_true (by omega)
          go_wp2_with fail
          refine (pagesOf_any v kv B ln K _ (HW.out.below HB.out) HO.out.sl (HT.out.below HB.out) hok hn1 hn2 HK.out).mono ?_
          rintro e w3 ⟨g, rfl, og, b3⟩
          have HB3 := Lib.hid (HB.out.trans (b3.mono HB.out.size))
          have HO3 := Lib.hid (HO.out.below b3)
          clear b3
          go_wp2_with fail
          refine (labelPages_any v g B (pagesF B ln K B.length) _ (HW.out.below HB3.out) og.sl hok (pagesF_len ..)).mono ?_
          rintro e w4 ⟨g4, rfl, o4, b4⟩
          have HB4 := Lib.hid (HB3.out.trans (b4.mono HB3.out.size))
          have HO4 := Lib.hid (HO3.out.below b4)
          have o5 : OwnI w.heap.size w4.heap.size w4 g4 (nextF B ln K) := OwnI.mono o4 HB3.out.size (Nat.le_refl _) (Nat.le_refl _)
          have HN4 := Lib.hid o5
          have HNK : Hid (okK (nextF B ln K) = true) := Lib.hid (nextF_ok hok HK.out ln)
          clear b4 o4 og HO3 HO HB HB3 o5
          go_wp2_with fail
          refine (slicesEq_any g4 kv (nextF B ln K) K _ HN4.out.sl HO4.out.sl).mono ?_
          rintro e w5 ⟨n5, rfl, rfl⟩
          have HB5 : Hid (Below w.heap.size w (w4.drewN n5)) := Lib.hid (blwD HB4.out n5)
          have HO5 : Hid (OwnI w.heap.size (w4.drewN n5).heap.size (w4.drewN n5) kv K) := Lib.hid ((HO4.out.drewN n5).mono (Nat.le_refl _) (HO4.out.drewN n5).fits (Nat.le_refl _))
          have HN5 : Hid (OwnI w.heap.size (w4.drewN n5).heap.size (w4.drewN n5) g4 (nextF B ln K)) := Lib.hid (HN4.out.drewN n5)
          clear HB4 HO4 HN4
          generalize w4.drewN n5 = w5 at *
          by_cases he : nextF B ln K = K
          · have hde : decide (nextF B ln K = K) = true := decide_eq_true he
            have HF : Hid (resS B (ln : Int) = some (K, m)) := Lib.hid (by rw [← HG.out]; exact resGo_hit (by omega) he)
            have HN6 : Hid (OwnI w.heap.size w5.heap.size w5 g4 K) := Lib.hid (he ▸ HN5.out)
            clear he HG HN5
            rw [hde]
            go_wp2_with fail
            first | go_ret3 | go_ret2
            exact Resolved.yes HF.out HB5.out HO5.out rfl
          · have hde : decide (nextF B ln K = K) = false := decide_eq_false he
            have HG2 : Hid (resGo (nextF B ln) (21 - (m + 1)) (m + 1) (nextF B ln K) = resS B (ln : Int)) := Lib.hid (by rw [← HG.out, resGo_miss (by omega) he, show 21 - (m + 1) = 21 - m - 1 by omega])
            clear he HG
            rw [hde]
            go_wp2_with fail
            go_roundw
            case rel => exact ⟨m + 1, _, _, rfl, by omega, by omega, by go_num, HNK, HB5, HN5, HG2⟩
            case measure => simp [intOf]; omega
        · obtain rfl : m = 21 := by omega
          have HF : Hid (resS B (ln : Int) = none) := Lib.hid (by rw [← HG.out]; rfl)
          clear HG
          go_wp2_with fail
          first | go_ret3 | go_ret2
          exact Resolved.no HF.out HB.out rfl
    · have hd : decide (1 ≤ n ∧ n ≤ 40) = false := decide_eq_false hn
      have HE : Hid (resS B n = none) := Lib.hid (by unfold resS; rw [if_neg (fun x => hn x.2)])
      clear hn
      go_enter Tryd.func26, Tryd.ntmps26
      go_wp2_with fail
      refine (validBlocks_any _ B _ HW.out).mono ?_
      rintro e w1 ⟨rfl, b1⟩
      go_wp2_with fail
      refine (within_any _ _ _ _).mono ?_
      rintro e w2 ⟨rfl, rfl⟩
      go_wp2_with fail
      first | go_ret3 | go_ret2
      exact Resolved.no HE.out b1 rfl

theorem sresolvePages_any (v : Value) (B : List Blk) (n : Int) (w : World) (h : SlB w v B) :
    Calls Tryd.prog 25 #[v, .int .i64 n] w (Resolved B n w) := by
  have HW := Lib.hid h
  clear h
  cases hok : okB B with
  | false =>
    have HE : Hid (resS B n = none) := Lib.hid (by unfold resS; rw [if_neg (fun x => by rw [hok] at x; cases x.1)])
    go_enter Tryd.func25, Tryd.ntmps25
    go_wp2_with fail
    refine (svalidBlocks_any _ B _ HW.out).mono ?_
    rintro e w1 ⟨n1, rfl, hw1⟩
    have b1 : Below w.heap.size w w1 := hw1 ▸ blwD (Below.refl _ _) n1
    clear hw1
    go_wp2_with fail
    first | go_ret3 | go_ret2
    exact Resolved.no HE.out b1 rfl
  | true =>
    by_cases hn : 1 ≤ n ∧ n ≤ 40
    · have hd : decide (1 ≤ n ∧ n ≤ 40) = true := decide_eq_true hn
      obtain ⟨ln, rfl⟩ := Int.eq_ofNat_of_zero_le (show 0 ≤ n by omega)
      have hn1 : 1 ≤ ln := by omega
      have hn2 : ln ≤ 40 := by omega
      have HR0 : Hid (resGo (nextF B ln) (21 - 1) 1 zeroK = resS B (ln : Int)) := Lib.hid (by unfold resS; rw [if_pos ⟨hok, hn⟩, Int.toNat_natCast])
      have HZ : Hid (okK zeroK = true) := Lib.hid zeroK_ok
      clear hn
      go_enter Tryd.func25, Tryd.ntmps25
      go_wp2_with fail
      refine (svalidBlocks_any _ B _ HW.out).mono ?_
      rintro e w1 ⟨n1, rfl, hw1⟩
      have b1 : Below w.heap.size w w1 := hw1 ▸ blwD (Below.refl _ _) n1
      clear hw1
      go_wp2_with fail
      refine (inRange_any _ _ _ _).mono ?_
      rintro e w2 ⟨rfl, rfl⟩
      obtain ⟨w2, hmk, hown, hb2⟩ := make_ten w1
      have HO0 : Hid (OwnI w.heap.size w2.heap.size w2 (.slice (some ⟨w1.heap.size, 0, none⟩) 10 10) zeroK) := Lib.hid ((own_rowD (L := zeroK) hown rfl).mono b1.size (Nat.le_refl _) (Nat.le_refl _))
      have HB0 := Lib.hid (b1.trans (hb2.mono b1.size))
      clear hown hb2 b1
      go_wp2_with fail
      go_loopw [7, 8] (fun kv r wr => ∃ (m : Nat) (K : List Int) (x : Value), x = kv ∧ 1 ≤ m ∧ m ≤ 21 ∧ r = .int .i64 m ∧ Hid (okK K = true) ∧ Hid (Below w.heap.size w wr) ∧ Hid (OwnI w.heap.size wr.heap.size wr kv K) ∧ Hid (resGo (nextF B ln) (21 - m) m K = resS B (ln : Int))) (fun _ r _ => 21 - (intOf r).toNat)
      case atStart => exact ⟨1, zeroK, _, rfl, by omega, by omega, rfl, HZ, HB0, HO0, HR0⟩
      case round =>
        clear HO0 HB0 HR0 HZ
        obtain ⟨m, K, kv, rfl, hm1, hm2, rfl, HK, HB, HO, HG⟩ := hrel
        by_cases hlt : m ≤ 20
        · have hd1 : decide (m ≤ 20) = true := decide_eq_true hlt
          have hd2 : decide ((m : Int) ≤ 20) = true := decide_eq_true (by omega)
          go_wp2_with fail
          refine (spagesOf_any v kv B ln K _ (HW.out.below HB.out) HO.out.sl hok hn1 hn2 HK.out).mono ?_
          rintro e w3 ⟨g, rfl, og, b3⟩
          have HB3 := Lib.hid (HB.out.trans (b3.mono HB.out.size))
          have HO3 := Lib.hid (HO.out.below b3)
          clear b3
          go_wp2_with fail
          refine (slabelPages_any v g B (pagesF B ln K B.length) _ (HW.out.below HB3.out) og.sl hok (pagesF_len ..)).mono ?_
          rintro e w4 ⟨g4, rfl, o4, b4⟩
          have HB4 := Lib.hid (HB3.out.trans (b4.mono HB3.out.size))
          have HO4 := Lib.hid (HO3.out.below b4)
          have o5 : OwnI w.heap.size w4.heap.size w4 g4 (nextF B ln K) := OwnI.mono o4 HB3.out.size (Nat.le_refl _) (Nat.le_refl _)
          have HN4 := Lib.hid o5
          have HNK : Hid (okK (nextF B ln K) = true) := Lib.hid (nextF_ok hok HK.out ln)
          clear b4 o4 og HO3 HO HB HB3 o5
          go_wp2_with fail
          refine (sameInts_any g4 kv (nextF B ln K) K _ HN4.out.sl HO4.out.sl).mono ?_
          rintro e w5 ⟨n5, rfl, rfl⟩
          have HB5 : Hid (Below w.heap.size w (w4.drewN n5)) := Lib.hid (blwD HB4.out n5)
          have HO5 : Hid (OwnI w.heap.size (w4.drewN n5).heap.size (w4.drewN n5) kv K) := Lib.hid ((HO4.out.drewN n5).mono (Nat.le_refl _) (HO4.out.drewN n5).fits (Nat.le_refl _))
          have HN5 : Hid (OwnI w.heap.size (w4.drewN n5).heap.size (w4.drewN n5) g4 (nextF B ln K)) := Lib.hid (HN4.out.drewN n5)
          clear HB4 HO4 HN4
          generalize w4.drewN n5 = w5 at *
          by_cases he : nextF B ln K = K
          · have hde : decide (nextF B ln K = K) = true := decide_eq_true he
            have HF : Hid (resS B (ln : Int) = some (K, m)) := Lib.hid (by rw [← HG.out]; exact resGo_hit (by omega) he)
            have HN6 : Hid (OwnI w.heap.size w5.heap.size w5 g4 K) := Lib.hid (he ▸ HN5.out)
            clear he HG HN5
            rw [hde]
            go_wp2_with fail
            first | go_ret3 | go_ret2
            exact Resolved.yes HF.out HB5.out HN6.out rfl
          · have hde : decide (nextF B ln K = K) = false := decide_eq_false he
            have HG2 : Hid (resGo (nextF B ln) (21 - (m + 1)) (m + 1) (nextF B ln K) = resS B (ln : Int)) := Lib.hid (by rw [← HG.out, resGo_miss (by omega) he, show 21 - (m + 1) = 21 - m - 1 by omega])
            clear he HG
            rw [hde]
            go_wp2_with fail
            go_roundw
            case rel => exact ⟨m + 1, _, _, rfl, by omega, by omega, by go_num, HNK, HB5, HN5, HG2⟩
            case measure => simp [intOf]; omega
        · obtain rfl : m = 21 := by omega
          have HF : Hid (resS B (ln : Int) = none) := Lib.hid (by rw [← HG.out]; rfl)
          clear HG
          go_wp2_with fail
          first | go_ret3 | go_ret2
          exact Resolved.no HF.out HB.out rfl
    · have hd : decide (1 ≤ n ∧ n ≤ 40) = false := decide_eq_false hn
      have HE : Hid (resS B n = none) := Lib.hid (by unfold resS; rw [if_neg (fun x => hn x.2)])
      clear hn
      go_enter Tryd.func25, Tryd.ntmps25
      go_wp2_with fail
      refine (svalidBlocks_any _ B _ HW.out).mono ?_
      rintro e w1 ⟨n1, rfl, hw1⟩
      have b1 : Below w.heap.size w w1 := hw1 ▸ blwD (Below.refl _ _) n1
      clear hw1
      go_wp2_with fail
      refine (inRange_any _ _ _ _).mono ?_
      rintro e w2 ⟨rfl, rfl⟩
      go_wp2_with fail
      first | go_ret3 | go_ret2
      exact Resolved.no HE.out b1 rfl
end Go.Proofs.YtgppljadkpoklaaDoor
