/- Both FormatNumber give fmtS. -/
import Derived.Test.YtjjimcdpeofddaaDoorSRoman
import Derived.Test.YtjjimcdpeofddaaDoorLetters
import Derived.Test.YtjjimcdpeofddaaDoorDecimal
import Derived.Test.YtjjimcdpeofddaaDoorDoor
import Derived.Lib.AppendIntMem
import Derived.Shelf.Strconv.Itoa3
namespace Go.Proofs.YtjjimcdpeofddaaDoor
open Go.RowKit
set_option maxHeartbeats 1000000
set_option maxRecDepth 100000

/-- The library's table of powers of ten is laid. -/
def Pow10 (w : World) : Prop := Lib.TabIs Tryd.prog w ((Tryd.prog.globals[1]?).map (·.name)).get! .u64 Lib.pow10Tab
theorem Pow10.below {w w' : World} (h : Pow10 w) (hb : Below w.heap.size w w') : Pow10 w' := Lib.tabBelow_of_tabIs h w' hb
theorem pow10_eq : (Rows.laid_internal_strconv_uint64pow10 : DataW Unit) = Lib.tabData .u64 Lib.pow10Tab := by kernel_rfl
theorem pow10Global : Tryd.prog.globalNamed ((Tryd.prog.globals[1]?).map (·.name)).get! = some 1 := by kernel_rfl
theorem pow10Type : (Tryd.prog.globals[1]?).map (·.type) = some 73 := by kernel_rfl
/-- The condition on the listed variables gives the table of powers. -/
theorem pow10_of {l : List (String × DataW Unit)} {W : World} (hp : (l.all fun x => x.2.handleName?.isNone) = true) (hm : (((Tryd.prog.globals[1]?).map (·.name)).get!, (Rows.laid_internal_strconv_uint64pow10 : DataW Unit)) ∈ l)
    (h : laidMetH Tryd.prog l W) : Pow10 W := by
  rw [MakeChecks.laidMetH_plain _ _ _ hp] at h
  rw [pow10_eq] at hm
  obtain ⟨g, t, cs, f, p, hg, ht, hv, hd⟩ := Lib.laidMet.reads h hm
  obtain rfl := Option.some.inj (pow10Global.symm.trans hg)
  obtain rfl := Option.some.inj (pow10Type.symm.trans ht)
  unfold Pow10 Lib.TabIs
  rw [hv, ← Lib.cells_of_tab Tryd.underlying73 Tryd.underlying67 (by kernel_rfl) (by kernel_rfl) hd]
theorem itoa_any (n : Nat) (hn : n ≤ 1000000000) (w : World) (hT : Pow10 w) :
    Calls Tryd.prog 34 #[.int .i64 n] w fun e w' => e = .returned (.string ⟨(Lib.decDigits n).toArray⟩) ∧ Below w.heap.size w w' := by
  refine (Any.strconv_Itoa Tryd.laysM171 (n : Int) (by omega) (by omega) w hT).mono ?_
  rintro e w' ⟨rfl, k, os, rfl⟩
  refine ⟨by rw [Lib.itoa_nonneg], ?_⟩
  refine ⟨rfl, rfl, rfl, by simp, fun i hi => ?_⟩
  show (w.heap ++ os)[i]? = w.heap[i]?
  rw [Array.getElem?_append_left hi]

def fmtS (n style : Int) : List UInt8 :=
  if 1 ≤ n ∧ n ≤ 3999 then (if style = 1 then Lib.decDigits n.toNat else if style = 2 then romS n else if style = 3 then alphaS n else []) else []

theorem formatNumber_any (n style : Int) (w : World) (hL : Laid0 w) (hT : Pow10 w) :
    Calls Tryd.prog 17 #[.int .i64 n, .int .i64 style] w fun e w' => e = .returned (.string ⟨(fmtS n style).toArray⟩) ∧ Below w.heap.size w w' := by
  unfold fmtS
  by_cases h : 1 ≤ n ∧ n ≤ 3999
  · rw [if_pos h]
    have hw : (decide ((1:Int) ≤ n ∧ n ≤ 3999)) = true := by simpa using h
    by_cases s1 : style = 1
    · subst s1
      rw [if_pos rfl]
      obtain ⟨m, rfl⟩ := Int.eq_ofNat_of_zero_le (show 0 ≤ n by omega)
      rw [Int.toNat_natCast]
      go_enter Tryd.func17, Tryd.ntmps17
      go_wp2_with (first | (go_at_call 22; refine (within_any _ _ _ _).mono ?_; rintro e w' ⟨rfl, rfl⟩) | (go_at_call 34; refine (itoa_any m (by omega) _ hT).mono ?_; rintro e w1 ⟨rfl, hb⟩))
      go_ret
      exact ⟨rfl, by assumption⟩
    · rw [if_neg s1]
      have e1 : (style == 1) = false := by simpa using s1
      by_cases s2 : style = 2
      · subst s2
        rw [if_pos rfl]
        go_enter Tryd.func17, Tryd.ntmps17
        go_wp2_with (first | (go_at_call 22; refine (within_any _ _ _ _).mono ?_; rintro e w' ⟨rfl, rfl⟩) | (go_at_call 11; refine (roman_any n _ hL).mono ?_; rintro e w1 ⟨rfl, hb⟩))
        go_ret
        exact ⟨rfl, by assumption⟩
      · rw [if_neg s2]
        have e2 : (style == 2) = false := by simpa using s2
        by_cases s3 : style = 3
        · subst s3
          rw [if_pos rfl]
          go_enter Tryd.func17, Tryd.ntmps17
          go_wp2_with (first | (go_at_call 22; refine (within_any _ _ _ _).mono ?_; rintro e w' ⟨rfl, rfl⟩) | (go_at_call 19; refine (alpha_any n _).mono ?_; rintro e w' ⟨rfl, rfl⟩))
          go_ret
          exact ⟨rfl, Below.refl _ _⟩
        · rw [if_neg s3]
          have e3 : (style == 3) = false := by simpa using s3
          clear s1 s2 s3
          go_enter Tryd.func17, Tryd.ntmps17
          go_wp2_with (first | (go_at_call 22; refine (within_any _ _ _ _).mono ?_; rintro e w' ⟨rfl, rfl⟩))
          go_ret
          exact ⟨rfl, Below.refl _ _⟩
  · rw [if_neg h]
    have hw : (decide ((1:Int) ≤ n ∧ n ≤ 3999)) = false := by simpa using h
    go_enter Tryd.func17, Tryd.ntmps17
    go_wp2_with (first | (go_at_call 22; refine (within_any _ _ _ _).mono ?_; rintro e w' ⟨rfl, rfl⟩))
    go_ret
    exact ⟨rfl, Below.refl _ _⟩

theorem sformatNumber_any (n style : Int) (w : World) :
    Calls Tryd.prog 16 #[.int .i64 n, .int .i64 style] w fun e w' => e = .returned (.string ⟨(fmtS n style).toArray⟩) ∧ Below w.heap.size w w' := by
  unfold fmtS
  by_cases h : 1 ≤ n ∧ n ≤ 3999
  · rw [if_pos h]
    have hw : (decide ((1:Int) ≤ n ∧ n ≤ 3999)) = true := by simpa using h
    by_cases s1 : style = 1
    · subst s1
      rw [if_pos rfl]
      obtain ⟨m, rfl⟩ := Int.eq_ofNat_of_zero_le (show 0 ≤ n by omega)
      rw [Int.toNat_natCast]
      go_enter Tryd.func16, Tryd.ntmps16
      go_wp2_with (first | (go_at_call 20; refine (inRange_any _ _ _ _).mono ?_; rintro e w' ⟨rfl, rfl⟩) | (go_at_call 32; refine (formatInt_any m m _ (Nat.le_refl _) (by omega)).mono ?_; rintro e w1 ⟨rfl, hb⟩))
      go_ret
      exact ⟨rfl, by assumption⟩
    · rw [if_neg s1]
      have e1 : (style == 1) = false := by simpa using s1
      by_cases s2 : style = 2
      · subst s2
        rw [if_pos rfl]
        have er : romS n = romF n.toNat := if_pos h
        rw [er]
        obtain ⟨m, rfl⟩ := Int.eq_ofNat_of_zero_le (show 0 ≤ n by omega)
        rw [Int.toNat_natCast]
        clear er
        go_enter Tryd.func16, Tryd.ntmps16
        go_wp2_with (first | (go_at_call 20; refine (inRange_any _ _ _ _).mono ?_; rintro e w' ⟨rfl, rfl⟩) | (go_at_call 21; refine (sroman_in m (by omega) _).mono ?_; rintro e w1 ⟨rfl, hb⟩))
        go_ret
        exact ⟨rfl, by assumption⟩
      · rw [if_neg s2]
        have e2 : (style == 2) = false := by simpa using s2
        by_cases s3 : style = 3
        · subst s3
          rw [if_pos rfl]
          have er : alphaS n = alphaF n.toNat n.toNat [] := if_pos h
          rw [er]
          obtain ⟨m, rfl⟩ := Int.eq_ofNat_of_zero_le (show 0 ≤ n by omega)
          rw [Int.toNat_natCast]
          clear er
          go_enter Tryd.func16, Tryd.ntmps16
          go_wp2_with (first | (go_at_call 20; refine (inRange_any _ _ _ _).mono ?_; rintro e w' ⟨rfl, rfl⟩) | (go_at_call 33; refine (letters_any m (by omega) _).mono ?_; rintro e w1 ⟨rfl, hb⟩))
          go_ret
          exact ⟨rfl, by assumption⟩
        · rw [if_neg s3]
          have e3 : (style == 3) = false := by simpa using s3
          clear s1 s2 s3
          go_enter Tryd.func16, Tryd.ntmps16
          go_wp2_with (first | (go_at_call 20; refine (inRange_any _ _ _ _).mono ?_; rintro e w' ⟨rfl, rfl⟩))
          go_ret
          exact ⟨rfl, Below.refl _ _⟩
  · rw [if_neg h]
    have hw : (decide ((1:Int) ≤ n ∧ n ≤ 3999)) = false := by simpa using h
    go_enter Tryd.func16, Tryd.ntmps16
    go_wp2_with (first | (go_at_call 20; refine (inRange_any _ _ _ _).mono ?_; rintro e w' ⟨rfl, rfl⟩))
    go_ret
    exact ⟨rfl, Below.refl _ _⟩

theorem exactFormatNumber_walk (n style : Int) (w : World) (hL : Laid0 w) (hT : Pow10 w) :
    Calls Tryd.prog 8 #[.int .i64 n, .int .i64 style] w fun e w' => e = .returned (.bool true) ∧ Below w.heap.size w w' := by
  go_enter Tryd.func8, Tryd.ntmps8
  go_wp2_with fail
  refine (sformatNumber_any _ _ _).mono ?_
  rintro e w1 ⟨rfl, hb⟩
  go_wp2_with fail
  refine (formatNumber_any _ _ _ (hL.below hb) (hT.below hb)).mono ?_
  rintro e w2 ⟨rfl, hb2⟩
  go_wp2_with fail
  go_ret
  exact ⟨rfl, hb.trans (hb2.mono hb.size)⟩
end Go.Proofs.YtjjimcdpeofddaaDoor
